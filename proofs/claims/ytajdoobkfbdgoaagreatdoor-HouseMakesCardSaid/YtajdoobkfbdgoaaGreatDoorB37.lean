/- Lemmas on which the law of this seat rests; each states its own conditions. -/
import Derived.Test.YtajdoobkfbdgoaaGreatDoorB36
import Derived.Test.YtajdoobkfbdgoaaGreatDoorB07
import Derived.Test.YtajdoobkfbdgoaaGreatDoorB32
set_option linter.unusedVariables false
set_option linter.unusedSimpArgs false
namespace Go.Proofs.YtajdoobkfbdgoaaGreatDoor
section
open Go.RowKit
set_option maxRecDepth 100000 in
set_option maxHeartbeats 8000000 in
theorem rPack_bad (W H : Int) (a : Option Addr) (n c : Nat) (w : World) (h1 : (-9223372036854775808 ≤ W ∧ W ≤ 9223372036854775807)) (h2 : (-9223372036854775808 ≤ H ∧ H ≤ 9223372036854775807)) (h3 : n ≤ 9223372036854775807) (he : wrT W H n ≠ 0) :
  Calls Tryz.prog 22 #[.agg #[.int .i64 (W), .int .i64 (H), .slice a n c]] w (StrPost [] (wrT W H n) w) := by
 have hb : (wrT W H n != 0) = true := by simpa using he
 have HT := Lib.hid (fun w => r5Wrong_any W H a n c w h1 h2 h3)
 clear he
 generalize wrT W H n = q at *
 go_enter Tryz.func22, Tryz.ntmps22
 (go_wp2_with fail; refine (HT.out _).mono ?_; rintro r w1 ⟨rfl, hb⟩; obtain ⟨E, d, rfl⟩ := bExt hb; clear hb)
 go_wp2
 go_ret2
 exact ⟨rfl, blw⟩
def PA (base : Nat) (l : List Nat) (NT : Nat) (i : Nat) (a : Act) (w : World) : Prop :=
 (i ≤ 1 → w.ownsRow base 5 1 (a.tmps.getD 51 undef) l.length (l.map u8v)) ∧
 (i = 1 → ∃ g, a.tmps.getD 54 undef = .slice (some ⟨g, 0, none⟩) 1 1 ∧ w.cell? ⟨g, 0, none⟩ = some (u8v NT) ∧ g < w.heap.size ∧ (a.tmps.getD 51 undef).ownBlock ≠ some g) ∧
 (i = 2 → w.ownsRow base 5 1 (a.tmps.getD 55 undef) (l.length + 1) ((l ++ [NT]).map u8v))
def ownOf (a : Act) (i : Nat) : Option Nat := if i = 2 then (a.tmps.getD 55 undef).ownBlock else (a.tmps.getD 51 undef).ownBlock
def PBb (PL : List Nat) (i j : Nat) (a : Act) (w : World) : Prop :=
 j = 1 → ∃ A C, a.tmps.getD 58 undef = .slice A PL.length C ∧ IsB8 w A PL.length PL ∧ (A = none → C = 0) ∧ (0 < PL.length → ∀ b o, A = some ⟨b, o, none⟩ → b < w.heap.size ∧ ownOf a i ≠ some b)
theorem b8_cells {w : World} {A : Option Addr} {n : Nat} {l : List Nat} (h : IsB8 w A n l) (hn : 0 < n) : ∃ b of, A = some ⟨b, of, none⟩ ∧ ∀ j u, (l.map u8v)[j]? = some u → w.cell? ⟨b, of + j, none⟩ = some u := by
 obtain ⟨b, o, e, _, hc⟩ := h.2 hn
 refine ⟨b, o, e, fun j u hj => ?_⟩
 have hjl : j < l.length := by
  have := (List.getElem?_eq_some_iff.1 hj).1
  simpa using this
 rw [hc j (by rw [← h.1]; exact hjl)]
 rw [List.getElem?_map, List.getElem?_eq_getElem hjl] at hj
 rw [show l.getD j 0 = l[j] by simp [List.getD, hjl]]
 exact hj
theorem b8_one (l : List Nat) : ∀ u ∈ l.map u8v, u.oneCell' = true := by
 intro u hu
 obtain ⟨b, _, rfl⟩ := List.mem_map.1 hu
 rfl
theorem b8_grown {w w' : World} {A : Option Addr} {n : Nat} {l : List Nat} {blk : Option Nat} (h : IsB8 w A n l) (hg : w.grownBy w' blk) (hs : w.heap.size ≤ w'.heap.size) (hne : 0 < n → ∀ b o, A = some ⟨b, o, none⟩ → blk ≠ some b) : IsB8 w' A n l := by
 refine ⟨h.1, fun hn => ?_⟩
 obtain ⟨b, o, e, hl, hc⟩ := h.2 hn
 refine ⟨b, o, e, Nat.lt_of_lt_of_le hl hs, fun j hj => ?_⟩
 rw [← hc j hj]
 exact World.cell?_of_block (hg.block b hl fun e2 => hne hn b o e e2.symm)
theorem lfCd80 {P : Prop} (h : P := by
 have q0 : wx.cell? ⟨q, 0, none⟩ = some (.int .i64 (W)) := hqx.cell (i := 0) (by omega)
 have q1 : wx.cell? ⟨q, 1, none⟩ = some (.int .i64 (H)) := hqx.cell (i := 1) (by omega)
 have q2 : wx.cell? ⟨q, 2, none⟩ = some (.slice a n c) := hqx.cell (i := 2) (by omega)
 have lq : LtW q wx := hqx.lt
 have HQX := Lib.hid hqx
 have u1 : IntKind.u8.wrap (NT : Int) = (NT : Int) := IntWalk.u8_in _ (by omega)
 clear hqx
 refine wp_region_HS (Below base wx) (by kernel_rfl) ?_
 (refine anyH_takeS (i := 0) rfl (by kernel_rfl) (fun _ _ _ _ h => h) (Below.refl _ _).drew (fun K hK => ?_); go_simp; refine ⟨_, fun _ _ => rfl, hK _ ?_⟩; clear hK K)
 (refine anyH_takeS (i := 1) rfl (by kernel_rfl) (fun _ _ _ _ h => h) (Below.refl _ _).drew (fun K hK => ?_); go_simp; refine ⟨_, fun _ _ => rfl, hK _ ?_⟩; clear hK K)
 (refine anyH_takeS (i := 2) rfl (by kernel_rfl) (fun _ _ _ _ h => h) (Below.refl _ _).drew (fun K hK => ?_); go_simp; refine ⟨_, fun _ _ => rfl, hK _ ?_⟩; clear hK K)
 (refine anyH_takeS (i := 6) rfl (by kernel_rfl) (fun _ _ _ _ h => h) (Below.refl _ _).drew (fun K hK => ?_); go_simp; refine ⟨_, fun _ _ => rfl, hK _ ?_⟩; clear hK K)
 (refine anyH_takeS (i := 5) rfl (by kernel_rfl) (fun _ _ _ _ h => h) (Below.refl _ _).drew (fun K hK => ?_); simp only [Region.wanted, if_true]; refine ⟨.agg #[.int .i64 (W), .int .i64 (H), .slice a n c], fun w9 h9 => ?_, ?_⟩)
 ·clear hK
  have hq9 := rowBelow HQX.out h9 hql
  have p0 : w9.cell? ⟨q, 0, none⟩ = some (.int .i64 (W)) := hq9.cell (i := 0) (by omega)
  have p1 : w9.cell? ⟨q, 1, none⟩ = some (.int .i64 (H)) := hq9.cell (i := 1) (by omega)
  have p2 : w9.cell? ⟨q, 2, none⟩ = some (.slice a n c) := hq9.cell (i := 2) (by omega)
  have l9 : LtW q w9 := hq9.lt
  clear h9 hq9
  go_simp
 go_simp
 refine hK _ ?_
 clear hK K
 have hsx2 : base ≤ wx.heap.size := Nat.le_trans hbs HBX.out.size
 obtain ⟨PL, hPL⟩ : ∃ PL, punchL (rowL bs W yy) = PL := ⟨_, rfl⟩
 have hpl : PL.length ≤ 8 := by rw [← hPL, punchL_len, rowL_len']; omega
 have HPL := Lib.hid hPL
 have HHO : Hid (∀ w', Below base wx w' → Calls Tryz.prog 60 #[.agg #[.int .i64 (W), .int .i64 (H), .slice a n c], .int .i64 (yy)] w' (B8Post PL w')) := Lib.hid fun w' h => by
  rw [← hPL]
  exact rHoles_any W H n yy a c bs w' (HT.out.below (by rw [HQE.out]; exact HB2.out.trans ((HBX.out.trans h).mono (by omega)))).bits hW (by omega) (by rw [HN.out, Nat.mul_comm W H]; exact Nat.mul_le_mul_right W (by omega)) hn4
 clear hPL
 refine anyH_two (A := [3, 4]) (B := [7]) (g := 2) (by kernel_rfl) (by kernel_rfl) [54, 55, 58] (fun i j b w' => PA base l NT i b w' ∧ PBb PL i j b w') ?_ ?_ (Below.refl _ _).drew ⟨⟨fun _ => HOX.out, fun h => absurd h (by omega), fun h => absurd h (by omega)⟩, fun h => absurd h (by omega)⟩ ?_
 ·intro i j b w9 hi hj hs9 hw9 hR
  obtain ⟨⟨hA0, hA1, hA2⟩, hB⟩ := hR
  have h53 : b.tmps.getD 53 undef = .int .u8 (NT : Int) := hs9.get (k := 53) (by decide)
  have hsz : b.tmps.size = 66 := hs9.size
  have hi2 : i = 0 ∨ i = 1 := by simp at hi; omega
  rcases hi2 with rfl | rfl
  ·have hown := hA0 (by omega)
   have hba : Below w9.heap.size w9 (w9.alloc (.cells #[.int .u8 (NT : Int)] 5)) := Below.alloc (Below.refl _ _) (Nat.le_refl _) _
   refine wpOp_go (i := 3) rfl rfl (fun K hK => ?_)
   have HSZ := Lib.hid hsz
   have h53' : b.tmps[53]?.getD undef = .int .u8 (NT : Int) := by rw [← Array.getD_eq_getD_getElem?]; exact h53
   clear hsz
   go_simp
   have hsz := HSZ.out
   refine hK (b.put (some 54) (.slice (some ⟨w9.heap.size, 0, none⟩) 1 1)) _ ⟨hs9.put (by decide) _, hw9.trans (hba.mono (Nat.le_trans hsx2 hw9.size)), ⟨fun _ => ?_, fun _ => ⟨w9.heap.size, put_at (by rw [hsz]; decide), by simp [u8v], by simp, ?_⟩, fun h => absurd h (by omega)⟩, fun hj => ?_⟩
   ·rw [put_off (by decide)]; exact ownBelow hown hba
   ·rw [put_off (by decide)]; exact fun e => by have := (hown.lt _ e).2; omega
   ·obtain ⟨A, C, e1, e2, e3, e4⟩ := hB hj
    refine ⟨A, C, by rw [put_off (by decide)]; exact e1, e2.below hba, e3, fun h0 b' o e => ?_⟩
    obtain ⟨x1, x2⟩ := e4 h0 b' o e
    refine ⟨Nat.lt_of_lt_of_le x1 hba.size, ?_⟩
    unfold ownOf at x2 ⊢
    rw [if_neg (by decide)] at x2 ⊢
    rw [put_off (by decide)]; exact x2
  ·have hown := hA0 (by omega)
   obtain ⟨g, e54, hcg, hgl, hgo⟩ := hA1 rfl
   refine app_opG okB8 (i := 4) rfl rfl (.tmp 51) (.tmp 54) rfl 55 rfl l.length (l.map u8v) [u8v NT] (some ⟨g, 0, none⟩) 1 1 hown e54 (fun e => by cases e) rfl (fun _ => ⟨g, 0, rfl, fun j u hju => ?_⟩) (fun u hu => by simp at hu; subst hu; rfl) (by omega) (by omega) (Nat.le_trans hsx2 hw9.size) ?_
   ·have hj0 : j = 0 := by
     have := (List.getElem?_eq_some_iff.1 hju).1
     simpa using this
    subst hj0
    simp at hju
    subst hju
    exact hcg
   ·intro v' w' h1 h2 h3 h4
    refine ⟨hs9.put (by decide) _, hw9.trans h4, ⟨fun h => absurd h (by omega), fun h => absurd h (by omega), fun _ => ?_⟩, fun hj => ?_⟩
    ·rw [put_at (by rw [hsz]; decide), List.map_append]; exact h1
    ·obtain ⟨A, C, e1, e2, e3, e4⟩ := hB hj
     refine ⟨A, C, by rw [put_off (by decide)]; exact e1, b8_grown e2 h2 h2.size (fun h0 b' o e => (e4 h0 b' o e).2), e3, fun h0 b' o e => ?_⟩
     obtain ⟨x1, x2⟩ := e4 h0 b' o e
     refine ⟨Nat.lt_of_lt_of_le x1 h2.size, ?_⟩
     unfold ownOf at x2 ⊢
     rw [if_neg (by decide)] at x2
     rw [if_pos (by decide), put_at (by rw [hsz]; decide)]
     rcases h3 with h3 | h3
     ·rw [h3]; exact x2
     ·rw [h3]; intro e5; injection e5 with e5; omega
 ·intro i j b w9 hi hj hs9 hw9 hR
  obtain ⟨⟨hA0, hA1, hA2⟩, hB⟩ := hR
  have h56 : b.tmps.getD 56 undef = .agg #[.int .i64 (W), .int .i64 (H), .slice a n c] := hs9.get (k := 56) (by decide)
  have h57 : b.tmps.getD 57 undef = .int .i64 (yy) := hs9.get (k := 57) (by decide)
  have hsz : b.tmps.size = 66 := hs9.size
  have hj0 : j = 0 := by simp at hj; omega
  have hi3 : i = 0 ∨ i = 1 ∨ i = 2 := by simp at hi; omega
  subst hj0
  have HW9 := Lib.hid hw9
  refine wpOp_go (i := 7) rfl rfl (fun K hK => ?_)
  have HK := Lib.hid hK
  have HSZ := Lib.hid hsz; have HS9 := Lib.hid hs9; have HA0 := Lib.hid hA0; have HA1 := Lib.hid hA1; have HA2 := Lib.hid hA2
  clear hK hA0 hA1 hA2 hB hsz hw9 hs9
  go_simp
  refine (HHO.out w9 HW9.out).mono ?_
  rintro r w' ⟨A, C, rfl, hI8, hn8, hb8, hg8⟩
  refine HK.out (b.put (some 58) (.slice A PL.length C)) w' ⟨HS9.out.put (by decide) _, HW9.out.trans (hb8.mono (Nat.le_trans hsx2 HW9.out.size)), ⟨fun h => ?_, fun h => ?_, fun h => ?_⟩, fun _ => ⟨A, C, put_at (by rw [HSZ.out]; decide), hI8, hn8, fun h0 b' o e => ?_⟩⟩
  ·rw [put_off (by decide)]; exact ownBelow (HA0.out h) hb8
  ·obtain ⟨g, x1, x2, x3, x4⟩ := HA1.out h
   exact ⟨g, by rw [put_off (by decide)]; exact x1, (hb8.cell (p := ⟨g, 0, none⟩) x3).trans x2, Nat.lt_of_lt_of_le x3 hb8.size, by rw [put_off (by decide)]; exact x4⟩
  ·rw [put_off (by decide)]; exact ownBelow (HA2.out h) hb8
  ·obtain ⟨b2, o2, e2, hl2, _⟩ := hI8.2 h0
   have hge := hg8 b' o e
   rw [e] at e2
   injection e2 with e2
   injection e2 with e2
   subst e2
   refine ⟨hl2, ?_⟩
   unfold ownOf
   rcases hi3 with rfl | rfl | rfl
   ·rw [if_neg (by decide), put_off (by decide)]; exact fun e5 => by have := ((HA0.out (by omega)).lt _ e5).2; omega
   ·rw [if_neg (by decide), put_off (by decide)]; exact fun e5 => by have := ((HA0.out (by omega)).lt _ e5).2; omega
   ·rw [if_pos (by decide), put_off (by decide)]; exact fun e5 => by have := ((HA2.out (by omega)).lt _ e5).2; omega
 ·intro b w9 hs9 hw9 hR
  obtain ⟨⟨_, _, hA2⟩, hB⟩ := hR
  have hown := hA2 rfl
  obtain ⟨A8, C8, e58, hI8, hz8, _⟩ := hB rfl
  have hf := hs9.form
  simp only [List.foldl_cons, List.foldl_nil] at hf
  rw [e58] at hf
  generalize b.tmps.getD 54 undef = v54 at hf
  generalize b.tmps.getD 55 undef = v55 at hf hown
  have HW9 := Lib.hid hw9; have HI8 := Lib.hid hI8
  clear hs9 hA2 hB e58 hw9 hI8
  subst hf
  refine anyH_one (i := 8) (by kernel_rfl) ?_
  refine app_opG okB8 (i := 8) rfl rfl (.tmp 55) (.tmp 58) rfl 59 rfl (l.length + 1) ((l ++ [NT]).map u8v) (PL.map u8v) A8 PL.length C8 hown rfl hz8 (by simp) (b8_cells HI8.out) (b8_one PL) (by omega) (by omega) (Nat.le_trans hsx2 HW9.out.size) ?_
  intro v' w' h1 h2 h3 h4
  have HB5 := Lib.hid (HBX.out.trans (HW9.out.trans h4))
  have HOW5 := Lib.hid h1
  have HS5 := Lib.hid (HW9.out.trans h4)
  refine ⟨HW9.out.trans h4, ?_⟩
  clear h1 h2 h3 h4 hown
  (refine anyH_takeS (i := 9) rfl (by kernel_rfl) (fun _ _ _ _ h => h) HS5.out (fun K hK => ?_); go_simp; refine ⟨_, fun _ _ => rfl, hK _ ?_⟩; clear hK K)
  refine wpAnyH_done (by kernel_rfl) ?_ _
  go_wp2
  go_roundw
  case rel =>
   obtain ⟨f', rfl⟩ : ∃ f', f = f' + 1 := ⟨f - 1, by omega⟩
   refine ⟨yy + 1, yy + NT, f', v', l ++ [NT] ++ PL, by omega, n2, by go_num, rfl, ?_, HB5.out, by omega, Lib.hid ?_, Lib.hid ?_, Lib.hid (fun j h1 h2 => ⟨by omega, ?_⟩), Lib.hid ?_, ?_⟩
   ·have e1 : (l ++ [NT] ++ PL).length = l.length + 1 + PL.length := by rw [List.length_append, List.length_append, List.length_singleton]
    rw [e1, List.map_append]
    exact HOW5.out
   ·rw [← hdk.out]
    show _ = l ++ (if yy < H then runLen R H yy :: (punchL (R yy) ++ cardsL R H f' (yy + runLen R H yy)) else [])
    rw [if_pos hyn, HNT.out, ← HRE.out, HPL.out]; simp
   ·intro x hx
    rw [List.mem_append, List.mem_append, List.mem_singleton] at hx
    rcases hx with (hx | hx) | hx
    ·exact hlt0.out x hx
    ·omega
    ·rw [← HPL.out] at hx
     unfold punchL at hx
     obtain ⟨y, _, rfl⟩ := List.mem_map.1 hx
     exact byt_lt _ _
   ·have a1 := HN3.out (j - yy) (by omega)
    have a2 := HN3.out (j - 1 - yy) (by omega)
    rw [show yy + (j - yy) = j by omega] at a1
    rw [show yy + (j - 1 - yy) = j - 1 by omega] at a2
    rw [a1, a2]
   ·right
    have a2 := HN3.out (NT - 1) (by omega)
    rw [show yy + (NT - 1) = yy + NT - 1 by omega] at a2
    rw [a2]
    rcases HN4.out with h | h
    ·exact .inl h
    ·exact .inr fun e => h e.symm
   ·rw [List.length_append, List.length_append, List.length_singleton]; omega
  case measure => simp [intOf]; omega) : P := h
theorem lfCd81 {P : Prop} (h : P := by
 go_wp2_with fail
 obtain ⟨wo, hwo⟩ : ∃ wo : World, wo = wr := ⟨_, rfl⟩
 subst hwo
 go_loopw [7] (fun i wr => ∃ (nn f2 : Nat) (E : Array Obj) (d : Nat), 1 ≤ nn ∧ yy + nn ≤ H ∧ i = .int .i64 nn ∧ Hid (rlF R H yy f2 nn = NT) ∧ H < yy + nn + f2 ∧ wr = extW wo E d) (fun i _ => H - (intOf i).toNat)
 case atStart => exact ⟨1, H + 1, #[], wo.drawn, by omega, by omega, rfl, HRLF, by omega, extW_zero _⟩
 case round =>
  obtain ⟨nn, f2, E, d, g1, g2, rfl, hrl, hf2, rfl⟩ := hrel
  obtain ⟨f3, rfl⟩ : ∃ f3, f2 = f3 + 1 := ⟨f2 - 1, by omega⟩
  have HRL : Hid ((if yy + nn < H ∧ R yy = R (yy + nn) then rlF R H yy f3 (nn + 1) else nn) = NT) := hrl
  by_cases hlt : yy + nn < H
  ·have HTW := Lib.hid (HTR.out.below (bExtW (Below.refl _ _) (Nat.le_refl _) : Below wo.heap.size wo (extW wo E d)))
   have HRX := Lib.hid (fun w h => rRows_ok W H n HN.out a c bs yy (yy + nn) w h hW hH hyn hlt)
   rw [HRE.out, show ((yy + nn : Nat) : Int) = (yy : Int) + (nn : Int) by omega] at HRX
   by_cases e : R yy = R (yy + nn)
   ·rw [decide_eq_true e] at HRX
    have HR2 := Lib.hid (HRL.out.symm.trans (if_pos ⟨hlt, e⟩))
    clear e
    go_wp2_with fail
    refine (HRX.out _ HTW.out.bits).mono ?_
    rintro r w3 ⟨rfl, hb3⟩
    obtain ⟨E3, d3, rfl⟩ := bExt hb3
    clear hb3
    rw [extW_extW]
    go_wp2
    go_roundw
    case rel => exact ⟨nn + 1, f3, _, _, by omega, by omega, by go_num, Lib.hid HR2.out.symm, by omega, rfl⟩
    case measure => simp [intOf]; omega
   ·rw [decide_eq_false e] at HRX
    have hnt : NT = nn := (HRL.out.symm.trans (if_neg fun h => e h.2))
    subst hnt
    clear e HRL hrl
    go_wp2_with fail
    refine (HRX.out _ HTW.out.bits).mono ?_
    rintro r w3 ⟨rfl, hb3⟩
    obtain ⟨E3, d3, rfl⟩ := bExt hb3
    clear hb3 HRX HTW
    rw [extW_extW]
    go_wp2_with fail
    have hbx : Below wo.heap.size wo (extW wo (E ++ E3) d3) := bExtW (Below.refl _ _) (Nat.le_refl _)
    have hsx := hbx.size
    have HOX := Lib.hid (ownBelow HO.out hbx)
    have HBX := Lib.hid (HB.out.trans (hbx.mono (Nat.le_trans hbs HB.out.size)))
    have hqx := rowBelow HQ2.out HBX.out hql
    have HTX := Lib.hid (HTR.out.below hbx)
    clear hbx HO HB HTR q0 q1 q2 lq
    generalize extW wo (E ++ E3) d3 = wx at *
    exact lfCd80
  ·have hnt : NT = nn := (HRL.out.symm.trans (if_neg fun h => hlt h.1))
   subst hnt
   have hd1 : decide ((yy : Int) + (NT : Int) < (H : Int)) = false := by simp; omega
   have hd2 : decide (yy + NT < H) = false := by simp; omega
   clear HRL hrl
   go_wp2_with fail
   have hbx : Below wo.heap.size wo (extW wo E d) := bExtW (Below.refl _ _) (Nat.le_refl _)
   have hsx := hbx.size
   have HOX := Lib.hid (ownBelow HO.out hbx)
   have HBX := Lib.hid (HB.out.trans (hbx.mono (Nat.le_trans hbs HB.out.size)))
   have hqx := rowBelow HQ2.out HBX.out hql
   have HTX := Lib.hid (HTR.out.below hbx)
   clear hbx HO HB HTR q0 q1 q2 lq
   generalize extW wo E d = wx at *
   exact lfCd80) : P := h
set_option maxRecDepth 100000 in
set_option maxHeartbeats 8000000 in
theorem rPack_ok (W H n : Nat) (a : Option Addr) (c : Nat) (bs : List Bool) (w : World) (hT : OkT w a n c bs) (hW : W ≤ 64) (hH : H ≤ 64) (hn : n = W * H) :
  Calls Tryz.prog 22 #[.agg #[.int .i64 (W), .int .i64 (H), .slice a n c]] w (StrPost (deckL W H bs) 0 w) := by
 have hn4 : n ≤ 4096 := by rw [hn]; exact mul64n hW hH
 have hz : wrT W H n = 0 := by rw [hn]; exact wrT_ok hW hH
 have HWR := Lib.hid (fun w => r5Wrong_any W H a n c w (wfN W hW) (wfN H hH) (by omega))
 rw [hz] at HWR
 have HT := Lib.hid hT; have HN := Lib.hid hn
 have hcap := hT.cap
 have u1 : IntKind.u8.wrap (W : Int) = (W : Int) := IntWalk.u8_in _ (by omega)
 have u2 : IntKind.u8.wrap (H : Int) = (H : Int) := IntWalk.u8_in _ (by omega)
 clear hT hn hz
 go_enter Tryz.func22, Tryz.ntmps22
 go_wp2_with fail
 refine (HWR.out _).mono ?_
 rintro r w1 ⟨rfl, hb⟩
 have hq1 := rowBelow (tF_alloc w W H (.slice a n c) rfl) hb (by simp)
 have hb1 : Below w.heap.size w w1 := blw
 generalize hqe : w.heap.size = q at *
 have HQE := Lib.hid hqe
 clear hqe hb
 have q0 : w1.cell? ⟨q, 0, none⟩ = some (.int .i64 (W)) := hq1.cell (i := 0) (by omega)
 have q1 : w1.cell? ⟨q, 1, none⟩ = some (.int .i64 (H)) := hq1.cell (i := 1) (by omega)
 have q2 : w1.cell? ⟨q, 2, none⟩ = some (.slice a n c) := hq1.cell (i := 2) (by omega)
 have lq : LtW q w1 := hq1.lt
 have HQ1 := Lib.hid hq1; have HB1 := Lib.hid hb1
 clear hq1 hb1
 go_wp2_with fail
 have hown : (w1.alloc (.cells #[.int .u8 74, .int .u8 81, .int .u8 49, .int .u8 (W : Int), .int .u8 (H : Int)] 5)).ownsRow w1.heap.size 5 1 (.slice (some ⟨w1.heap.size, 0, none⟩) 5 5) 5 ([74, 81, 49, W, H].map u8v) :=
  own_mk rfl (Nat.le_refl _) (Nat.le_refl _) (by unfold maxLen; omega) (heap_alloc_new w1 _) rfl rfl
 have hb12 : Below w1.heap.size w1 (w1.alloc (.cells #[.int .u8 74, .int .u8 81, .int .u8 49, .int .u8 (W : Int), .int .u8 (H : Int)] 5)) := blw
 obtain ⟨base, hbase⟩ : ∃ base, w1.heap.size = base := ⟨_, rfl⟩
 have hq2 := rowBelow HQ1.out hb12 lq
 have HB2 := Lib.hid (HB1.out.trans (hb12.mono (Nat.le_of_lt lq)))
 have hql : q < base := by rw [← hbase]; exact lq
 have hbs : base ≤ (w1.alloc (.cells #[.int .u8 74, .int .u8 81, .int .u8 49, .int .u8 (W : Int), .int .u8 (H : Int)] 5)).heap.size := by rw [← hbase]; exact hb12.size
 rw [hbase] at hown hb12 ⊢
 generalize w1.alloc (.cells #[.int .u8 74, .int .u8 81, .int .u8 49, .int .u8 (W : Int), .int .u8 (H : Int)] 5) = w2 at *
 have HQ2 := Lib.hid hq2
 have HOWN := Lib.hid hown
 clear hown hb12 hq2 q0 q1 q2 lq HQ1 HB1
 obtain ⟨R, hR⟩ : ∃ R, rowL bs W = R := ⟨_, rfl⟩
 have HDK : Hid ([74, 81, 49, W, H] ++ cardsL R H (H + 1) 0 = deckB W H bs) := Lib.hid (by rw [← hR]; rfl)
 have HRE := Lib.hid hR
 clear hR
 go_wp2_with fail
 go_loopw [5, 6] (fun o y wr => ∃ (yy s f : Nat) (v : Value) (l : List Nat), yy ≤ s ∧ s ≤ H ∧ y = .int .i64 yy ∧ o = v ∧ wr.ownsRow base 5 1 v l.length (l.map u8v) ∧ Below base w2 wr ∧ H < s + f ∧ Hid (l ++ cardsL R H f s = deckB W H bs) ∧ Hid (∀ x ∈ l, x < 256) ∧ Hid (∀ j, yy ≤ j → j < s → 0 < j ∧ R j = R (j - 1)) ∧ Hid (s = 0 ∨ s = H ∨ R s ≠ R (s - 1)) ∧ l.length ≤ 5 + 9 * s) (fun _ y _ => H - (intOf y).toNat)
 case atStart => exact ⟨0, 0, H + 1, _, [74, 81, 49, W, H], Nat.zero_le _, Nat.zero_le _, rfl, rfl, HOWN.out, Below.refl _ _, by omega, HDK, Lib.hid (by intro x hx; simp at hx; omega), Lib.hid (fun j h1 h2 => absurd h2 (by omega)), Lib.hid (.inl rfl), by simp⟩
 case round =>
  obtain ⟨yy, s, f, v, l, hys, hsH, rfl, rfl, hown, hbel, hf, hdk, hlt0, hst, hnw, hll⟩ := hrel
  have hqr := rowBelow HQ2.out hbel hql
  have q0 : wr.cell? ⟨q, 0, none⟩ = some (.int .i64 (W)) := hqr.cell (i := 0) (by omega)
  have q1 : wr.cell? ⟨q, 1, none⟩ = some (.int .i64 (H)) := hqr.cell (i := 1) (by omega)
  have q2 : wr.cell? ⟨q, 2, none⟩ = some (.slice a n c) := hqr.cell (i := 2) (by omega)
  have lq : LtW q wr := hqr.lt
  have HO := Lib.hid hown; have HB := Lib.hid hbel
  have HTR : Hid (OkT wr a n c bs) := Lib.hid (HT.out.below (by rw [HQE.out]; exact HB2.out.trans (hbel.mono (by omega))))
  clear hqr hown hbel
  by_cases hyn : yy < H
  ·by_cases hlt : yy < s
   ·obtain ⟨hp, he⟩ := hst.out yy (Nat.le_refl _) hlt
    obtain ⟨k, rfl⟩ : ∃ k, yy = k + 1 := ⟨yy - 1, by omega⟩
    have hd : decide (rowL bs W (k + 1) = rowL bs W k) = true := by rw [HRE.out]; exact decide_eq_true he
    have HRW := Lib.hid (fun w h => rRows_ok W H n HN.out a c bs (k + 1) k w h hW hH hyn (by omega))
    rw [hd] at HRW
    have t1 : decide (0 < (k : Int) + 1) = true := decide_eq_true (by omega)
    have t2 : (k : Int) + 1 - 1 = (k : Int) := by omega
    have t3 : ((k + 1 : Nat) : Int) = (k : Int) + 1 := by omega
    rw [t3] at HRW ⊢
    clear hd he
    go_wp2_with fail
    refine (HRW.out _ HTR.out.bits).mono ?_
    rintro r w3 ⟨rfl, hb3⟩
    have HO3 := Lib.hid (ownBelow HO.out hb3)
    have HB3 := Lib.hid (HB.out.trans (hb3.mono (Nat.le_trans hbs HB.out.size)))
    clear hb3 HO HB
    go_wp2
    go_roundw
    case rel => exact ⟨k + 2, s, f, _, l, by omega, hsH, by go_num, rfl, HO3.out, HB3.out, hf, hdk, hlt0, Lib.hid fun j h1 h2 => hst.out j (by omega) h2, hnw, hll⟩
    case measure => simp [intOf]; omega
   ·have hsy : yy = s := by omega
    subst hsy
    obtain ⟨n1, n2, n3, n4⟩ := runLen_spec (R := R) hyn
    obtain ⟨NT, hNT⟩ : ∃ NT, runLen R H yy = NT := ⟨_, rfl⟩
    rw [hNT] at n1 n2 n3 n4
    have HN3 := Lib.hid n3; have HN4 := Lib.hid n4
    have HNT := Lib.hid hNT
    have HRLF : Hid (rlF R H yy (H + 1) 1 = NT) := Lib.hid hNT
    clear hNT n3 n4 hst
    by_cases hs0 : 0 < yy
    ·have t1 : decide (0 < (yy : Int)) = true := decide_eq_true (by omega)
     obtain ⟨z, hz⟩ : ∃ z, yy = z + 1 := ⟨yy - 1, by omega⟩
     have t2 : (yy : Int) - 1 = (z : Int) := by omega
     have hne : rowL bs W yy ≠ rowL bs W z := by
      rw [HRE.out]
      rcases hnw.out with h | h | h
      ·omega
      ·omega
      ·rwa [hz, Nat.add_sub_cancel, ← hz] at h
     have HRW := Lib.hid (fun w h => rRows_ok W H n HN.out a c bs yy z w h hW hH hyn (by omega))
     rw [decide_eq_false hne] at HRW
     clear hne hz
     go_wp2_with fail
     refine (HRW.out _ HTR.out.bits).mono ?_
     rintro r w3 ⟨rfl, hb3⟩
     have HO := Lib.hid (ownBelow HO.out hb3)
     have HB := Lib.hid (HB.out.trans (hb3.mono (Nat.le_trans hbs HB.out.size)))
     have HTR := Lib.hid (HTR.out.below hb3)
     have hqr := rowBelow HQ2.out HB.out hql
     clear hb3 HRW q0 q1 q2 lq t2
     generalize w3 = wr at *
     have q0 : wr.cell? ⟨q, 0, none⟩ = some (.int .i64 (W)) := hqr.cell (i := 0) (by omega)
     have q1 : wr.cell? ⟨q, 1, none⟩ = some (.int .i64 (H)) := hqr.cell (i := 1) (by omega)
     have q2 : wr.cell? ⟨q, 2, none⟩ = some (.slice a n c) := hqr.cell (i := 2) (by omega)
     have lq : LtW q wr := hqr.lt
     clear hqr
     exact lfCd81
    ·have t1 : decide (0 < (yy : Int)) = false := decide_eq_false (by omega)
     exact lfCd81
  ·obtain rfl : H = yy := by omega
   obtain rfl : H = s := by omega
   have hl : l = deckB W H bs := by
    have h1 := hdk.out
    rwa [cards_done (by omega), List.append_nil] at h1
   obtain ⟨a8, c8, rfl, hB8, hg8⟩ := IsB8.of_owns HO.out
   have HB8 := Lib.hid hB8
   have hll2 : l.length ≤ 600 := by omega
   have HL := Lib.hid hl
   clear hB8 hg8 hl hdk hll hst hnw
   go_wp2_with fail
   refine (rCheck_any a8 l.length c8 l wr HB8.out (by omega) hlt0.out).mono ?_
   rintro r w6 ⟨rfl, hb6⟩
   have HO6 := Lib.hid (ownBelow HO.out hb6)
   have HB6 := Lib.hid (HB.out.trans (hb6.mono (Nat.le_trans hbs HB.out.size)))
   have hs6 := hb6.size
   have hsz := HB6.out.size
   clear hb6 HO HB HB8
   obtain ⟨ck, hck⟩ : ∃ ck, chk l = ck := ⟨_, rfl⟩
   have hcl : ck < 256 := by rw [← hck]; exact chk_lt l
   have HCK := Lib.hid hck
   rw [hck]
   clear hck
   go_wp2_with (at_builtin; refine wpApp8 rfl (.tmp 60) (.tmp 63) rfl base _ l.length l [ck] w6.heap.size 0 1 rfl (ownBelow HO6.out (Below.alloc (Below.refl _ _) (Nat.le_refl _) (.cells #[.int .u8 (ck : Int)] 5))) rfl (fun j hj => ?_) (by simp; omega) (by simp; omega) ?_)
   ·have hj2 : j = 0 := by simp at hj; exact hj
    subst hj2
    simp
   intro v' w7 hown7 hb7
   have hown7 : w7.ownsRow base 5 1 v' (l ++ [ck]).length ((l ++ [ck]).map u8v) := by rw [List.map_append, List.length_append]; exact hown7
   have hb7 : Below base w6 w7 := Below.trans (Below.alloc (Below.refl _ _) (by omega) _) hb7
   have HB7 := Lib.hid (HB6.out.trans hb7)
   obtain ⟨a9, c9, rfl, hB9, hg9⟩ := IsB8.of_owns hown7
   obtain ⟨b9, o9, rfl, _, hc9⟩ := hB9.2 (by simp)
   have hcv := conv_str (c := c9) (fun x hx => by
    rw [List.mem_append, List.mem_singleton] at hx
    rcases hx with hx | hx
    ·exact hlt0.out x hx
    ·omega) hc9
   have hlen : (l ++ [ck]).length = l.length + 1 := by simp
   rw [hlen] at hcv ⊢
   clear hown7 hb7 hB9 hg9 hc9 HO6 HB6 hlen
   go_wp2
   go_ret2
   refine ⟨?_, by
    have h1 := HB2.out.trans (HB7.out.mono (by omega))
    rw [← HQE.out] at h1
    exact h1⟩
   rw [← HCK.out, HL.out]
   rfl
end
section
open Go.RowKit
open Z (torN place pnt Mv To lin okT nrm keepB colP idm md redM firstB rankP act stK Sid Upw)
end
section
open Go.RowKit
open Z (torN place pnt Mv To lin okT nrm keepB colP idm md redM firstB rankP act stK Sid Upw)
theorem mv_wf7 {m : Mv} {g : Int} (hg : g = 4 ∨ g = 6) (ht : okT g m) : m.t ≤ 6 := by unfold okT at ht; omega
def frI (g : Int) (n : Nat) (L : List Mv) (p i : Nat) : Bool := (L.take i).all fun f => decide (p ≤ rankP n (act g n f (pnt n p)))
theorem frI_succ {g : Int} {n : Nat} {L : List Mv} {p i : Nat} (hi : i < L.length) : frI g n L p (i + 1) = (frI g n L p i && decide (p ≤ rankP n (act g n (L.getD i idm) (pnt n p)))) := by
 unfold frI
 rw [List.take_add_one, List.getElem?_eq_getElem hi, List.all_append, List.getD_eq_getElem?_getD, List.getElem?_eq_getElem hi]
 simp
theorem frI_all (g : Int) (n : Nat) (L : List Mv) (p : Nat) : frI g n L p L.length = firstB g n L (pnt n p) := by
 unfold frI Z.firstB
 rw [List.take_length, Z.rank_pnt]
theorem lfGs180 {P : Prop} (h : P := by
 clear HFS HFI hge
 (go_wp2_with fail; refine ((HTO2.out _).1).mono ?_; rintro r w1 ⟨rfl, hb⟩; obtain ⟨E, d, rfl⟩ := bExt hb; clear hb)
 (go_wp2_with fail; refine (HON1.out _).mono ?_; rintro r w1 ⟨rfl, hb⟩; obtain ⟨E, d, rfl⟩ := bExt hb; clear hb)
 go_wp2
 go_roundw
 case rel => exact ⟨_, i + 1, _, _, by omega, rfl, by go_num, HFI2, by simp only [alloc_extW, extW_extW]; rfl⟩
 case measure => simp [intOf]; omega) : P := h
theorem lfGs181 {P : Prop} (h : P := by
 have HFI2 : Hid ((false) = frI G N L (y * N + x) (i + 1)) := Lib.hid (by rw [HFS.out, ← HFI.out]; simp [hge])
 exact lfGs180) : P := h
set_option maxRecDepth 100000 in
set_option maxHeartbeats 8000000 in
theorem rDomain_ok (G W H n N : Nat) (a : Option Addr) (c : Nat) (cs : List Int) (w : World) (hI : IsInts w a n cs) (h : ChOk G W H n cs) (hN : torN W H = N) (h24 : N ≤ 24) (h0 : 0 < N) (hlen : (Z.movesL W H cs G N).length ≤ 10000) :
  Calls Tryz.prog 17 #[.agg #[.int .i64 (G), .int .i64 (W), .int .i64 (H), .slice a n c], .int .i64 (N)] w fun r w' => (∃ A C, r = .returned (.slice A (firstsP G N (Z.movesL W H cs G N) (N * N)).length C) ∧ OwnP w' w.heap.size A (firstsP G N (Z.movesL W H cs G N) (N * N)).length C (firstsP G N (Z.movesL W H cs G N) (N * N))) ∧ Below w.heap.size w w' := by
 have hg : (G : Int) = 4 ∨ (G : Int) = 6 := by have := h.g; omega
 have hd := Z.torN_dvd W H
 rw [hN] at hd
 have grp := Z.movesL_grp (cs := cs) (g := (G : Int)) h0 hd.1 hd.2
 have HA := Lib.hid (fun w hI => rAll_ok G W H n N a c cs w hI h h24)
 have HI := Lib.hid hI
 generalize Z.movesL W H cs G N = L at *
 have HTO := Lib.hid (fun (m : Mv) (x y : Int) w (hm : m ∈ L) (hx : 0 ≤ x ∧ x ≤ 24) (hy : 0 ≤ y ∧ y ≤ 24) => (by
  have hb := grp.bd hm
  have ho := grp.ok hm
  exact (⟨rTo_any G x y m.o.1 m.o.2 m.t m.f w hg (mv_wf7 hg ho) (Int.le_trans (Z.nrm_bd hg (a := (x,y)) (B := 24) (by simp only; omega) (by simp only; omega)) (by decide)) (by omega) (by omega), To_small hg m.t m.f hx hy (ox := m.o.1) (oy := m.o.2) (by omega) (by omega)⟩ : _ ∧ _)))
 have HON := Lib.hid (fun x y w hx hy => On_ok N x y w h0 (by omega) hx hy)
 have HPS := Lib.hid (fun p => firstsP_succ G N L p)
 have HPL := Lib.hid (fun p => firstsP_len (G : Int) N L p)
 obtain ⟨RES, hRES⟩ : ∃ R, firstsP G N L (N * N) = R := ⟨_, rfl⟩
 rw [hRES]
 have HRES := Lib.hid hRES
 clear hI hN hd h grp hg hRES
 go_enter Tryz.func17, Tryz.ntmps17
 go_wp2_with fail
 refine (HA.out _ (HI.out.below blw)).mono ?_
 rintro r W1 ⟨⟨A, C, rfl, hM⟩, hb2⟩
 have HMV := Lib.hid hM.moves
 have cb0 : W1.cell? ⟨w.heap.size, 0, none⟩ = some (.int .i64 (G)) := bCs hb2 (by simp [go_sem])
 have hs0 : w.heap.size < W1.heap.size := World.block_lt_of_cell? _ _ cb0
 have hbw : Below w.heap.size w W1 := ((Below.refl _ _).alloc (Nat.le_refl _) _).trans (hb2.mono (by simp))
 have HG0 := Lib.hid (GL.nil W1 71 2)
 clear hM hb2 HA
 go_wp2_with fail
 go_loopw [5, 7] (fun ov yv wr => ∃ (y : Nat), y ≤ N ∧ yv = .int .i64 y ∧ Hid (GL 71 2 (ptsK (firstsP G N L (y * N))) (firstsP G N L (y * N)).length W1 ov wr)) (fun _ yv _ => N - (intOf yv).toNat)
 case atStart => exact ⟨0, by omega, rfl, by rw [Nat.zero_mul]; exact HG0⟩
 case round =>
  clear HG0
  obtain ⟨y, hy, rfl, HG⟩ := hrel
  by_cases hyn : y < N
  ·have vy : IntKind.i64.wrap ((y : Int) + 1) = (y : Int) + 1 := IntWalk.i64_in _ (by omega)
   have dy : decide ((y : Int) < (N : Int)) = true := by simpa using hyn
   go_wp2_with fail
   obtain ⟨wo, rfl⟩ : ∃ wo : World, wo = wr := ⟨_, rfl⟩
   go_loopw [5, 8] (fun ov xv wr => ∃ (x : Nat), x ≤ N ∧ xv = .int .i64 x ∧ Hid (GL 71 2 (ptsK (firstsP G N L (y * N + x))) (firstsP G N L (y * N + x)).length W1 ov wr)) (fun _ xv _ => N - (intOf xv).toNat)
   case atStart => exact ⟨0, by omega, rfl, HG⟩
   case round =>
    clear HG
    obtain ⟨x, hx, rfl, HG⟩ := hrel
    by_cases hxn : x < N
    ·have vx : IntKind.i64.wrap ((x : Int) + 1) = (x : Int) + 1 := IntWalk.i64_in _ (by omega)
     have dx : decide ((x : Int) < (N : Int)) = true := by simpa using hxn
     have k0 := bCs HG.out.bel cb0
     have lk : LtW w.heap.size wr := World.block_lt_of_cell? _ _ k0
     have HMW := Lib.hid (HMV.out.below HG.out.bel)
     have hQ6 : y * N + x < 576 := Nat.lt_of_lt_of_le (row_lt hxn hyn) (Nat.mul_le_mul h24 h24)
     obtain ⟨Q1, hQ1⟩ : ∃ Q, y * N = Q := ⟨_, rfl⟩
     obtain ⟨Q, hQ⟩ : ∃ Q, Q1 + x = Q := ⟨_, rfl⟩
     have p1 : (y : Int) * (N : Int) = (Q1 : Int) := by rw [← hQ1]; push_cast; rfl
     have p2 : (Q1 : Int) + (x : Int) = (Q : Int) := by rw [← hQ]; push_cast; rfl
     have r1 : IntKind.i64.wrap (Q1 : Int) = (Q1 : Int) := IntWalk.i64_in _ (by omega)
     have r2 : IntKind.i64.wrap (Q : Int) = (Q : Int) := IntWalk.i64_in _ (by omega)
     have hQQ : y * N + x = Q := by rw [hQ1, hQ]
     have HQQ := Lib.hid hQQ
     have HPT : Hid (pnt N (y * N + x) = ((x : Int), (y : Int))) := Lib.hid (pnt_at hxn)
     clear hQ1 hQ hQQ
     go_wp2_with fail
     obtain ⟨wo, rfl⟩ : ∃ wo : World, wo = wr := ⟨_, rfl⟩
     go_loopw [9, 28] (fun bv iv wr => ∃ (b : Bool) (i : Nat) (E : Array Obj) (d : Nat), i ≤ L.length ∧ bv = .bool b ∧ iv = .int .i64 i ∧ Hid (b = frI G N L (y * N + x) i) ∧ wr = extW wo E d) (fun _ iv _ => L.length - (intOf iv).toNat)
     case atStart => exact ⟨true, 0, #[], _, by omega, rfl, rfl, Lib.hid rfl, extW_zero _⟩
     case round =>
      obtain ⟨b, i, E0, d0, hi, rfl, rfl, HFI, rfl⟩ := hrel
      by_cases hil : i < L.length
      ·have di : decide ((i : Int) < (L.length : Int)) = true := by simpa using hil
       have vi : IntKind.i64.wrap ((i : Int) + 1) = (i : Int) + 1 := IntWalk.i64_in _ (by omega)
       obtain ⟨mb, mo, rfl, hb, hc⟩ := HMW.out.2 (by omega)
       obtain ⟨c0, c1, c2, c3⟩ := hc i hil
       have lmb : LtW mb wo := hb
       have hmem : L.getD i idm ∈ L := by rw [List.getD_eq_getElem?_getD, List.getElem?_eq_getElem hil]; exact List.getElem_mem hil
       have HFS := Lib.hid (frI_succ (g := (G : Int)) (n := N) (p := y * N + x) hil)
       obtain ⟨m, hm⟩ : ∃ m, L.getD i idm = m := ⟨_, rfl⟩
       rw [hm] at c0 c1 c2 c3 hmem HFS
       have HTO2 := Lib.hid (fun w => HTO.out m (x : Int) (y : Int) w hmem (by omega) (by omega))
       have hbd := (HTO.out m (x : Int) (y : Int) w hmem (by omega) (by omega)).2
       clear hm hmem hb hc
       obtain ⟨mt, mf, mx, my⟩ := m
       simp only at c0 c1 c2 c3
       rw [HPT.out] at HFS
       have hact : rankP N (act G N ⟨mt, mf, (mx, my)⟩ ((x : Int), (y : Int))) = place N (To G ⟨mt, mf, (mx, my)⟩ ((x : Int), (y : Int))) := rfl
       rw [hact] at HFS
       clear hact
       simp only at hbd HTO2
       generalize To G ⟨mt, mf, (mx, my)⟩ ((x : Int), (y : Int)) = pp at *
       obtain ⟨px, py⟩ := pp
       simp only at hbd
       obtain ⟨qx, qy, e1, hqx, e2, hqy, e3⟩ := torus_pt h0 (px, py)
       have HON1 := Lib.hid (fun w => HON.out px py w (by omega) (by omega))
       simp only at e1 e2
       rw [e1, e2] at HON1
       rw [e3] at HFS
       have hR6 : qy * N + qx < 576 := Nat.lt_of_lt_of_le (row_lt hqx hqy) (Nat.mul_le_mul h24 h24)
       obtain ⟨R1, hR1⟩ : ∃ Q, qy * N = Q := ⟨_, rfl⟩
       obtain ⟨R, hR⟩ : ∃ Q, R1 + qx = Q := ⟨_, rfl⟩
       have p3 : (qy : Int) * (N : Int) = (R1 : Int) := by rw [← hR1]; push_cast; rfl
       have p4 : (R1 : Int) + (qx : Int) = (R : Int) := by rw [← hR]; push_cast; rfl
       rw [hR1, hR] at HFS hR6
       have r3 : IntKind.i64.wrap (R1 : Int) = (R1 : Int) := IntWalk.i64_in _ (by omega)
       have r4 : IntKind.i64.wrap (R : Int) = (R : Int) := IntWalk.i64_in _ (by omega)
       rw [HQQ.out] at HFS
       rw [← HQQ.out] at HFS
       clear hR1 hR e1 e2 e3 hbd
       by_cases hge : y * N + x ≤ R
       ·have hgQ : Q ≤ R := by rw [← HQQ.out]; exact hge
        have dR : decide ((R : Int) ≥ (Q : Int)) = true := by simp; omega
        have dR2 : decide (Q ≤ R) = true := by simpa using hgQ
        cases b with
        | true =>
         skip
         have HFI2 : Hid ((true) = frI G N L (y * N + x) (i + 1)) := Lib.hid (by rw [HFS.out, ← HFI.out]; simp [hge])
         exact lfGs180
        | false =>
         skip
         exact lfGs181
       ·have hgQ : ¬ Q ≤ R := by rw [← HQQ.out]; exact hge
        have dR : decide ((R : Int) ≥ (Q : Int)) = false := by simp; omega
        have dR2 : decide (Q ≤ R) = false := by simpa using hgQ
        cases b with
        | true =>
         skip
         exact lfGs181
        | false =>
         skip
         exact lfGs181
      ·obtain rfl : i = L.length := by omega
       have di : decide ((L.length : Int) < (L.length : Int)) = false := by simp
       have hfb := HFI.out.trans (frI_all G N L (y * N + x))
       have HPS1 := Lib.hid (HPS.out (y * N + x))
       have hpl := HPL.out (y * N + x)
       rw [← hfb, HPT.out] at HPS1
       clear hfb HFI HPS HPL HMW HPT HQQ
       cases b with
       | true =>
        have HPS2 : Hid (firstsP G N L (y * N + x + 1) = firstsP G N L (y * N + x) ++ [((x : Int), (y : Int))]) := Lib.hid (by rw [HPS1.out, if_pos rfl])
        have HGE := Lib.hid (HG.out.below (bExtW (Below.refl _ _) (Nat.le_refl _) : Below wo.heap.size wo (extW wo E0 d0)))
        generalize firstsP G N L (y * N + x) = FL at *
        generalize extW wo E0 d0 = w5 at *
        clear HPS1 HG
        go_wp2_with (at_builtin; refine wpAppM okPt rfl (.tmp 59) (.tmp 63) rfl W1.heap.size _ _ _ #[.int .i64 (x : Int), .int .i64 (y : Int)] rfl HGE.out.own rfl rfl ?_ (by omega) (by omega) HGE.out.bel.size ?_)
        ·simp [Value.oneCell']
        intro v' w6 hown6 hg6 hb6
        obtain ⟨A', cp', rfl⟩ := own_form hown6
        have HG6 : Hid (GL 71 2 (ptsK (FL ++ [((x : Int), (y : Int))])) (FL ++ [((x : Int), (y : Int))]).length W1 (.slice A' (FL.length + 1) cp') w6) := Lib.hid ⟨by rw [ptsK_app, List.length_append]; exact hown6, HGE.out.bel.trans hb6⟩
        clear hown6 hg6 hb6 HGE
        go_wp2
        go_roundw
        case rel => exact ⟨x + 1, by omega, by go_num, by rw [← Nat.add_assoc, HPS2.out]; exact HG6⟩
        case measure => simp [intOf]; omega
       | false =>
        have HPS2 : Hid (firstsP G N L (y * N + x + 1) = firstsP G N L (y * N + x)) := Lib.hid (by rw [HPS1.out, if_neg (by simp)])
        have HGE := Lib.hid (HG.out.below (bExtW (Below.refl _ _) (Nat.le_refl _) : Below wo.heap.size wo (extW wo E0 d0)))
        generalize firstsP G N L (y * N + x) = FL at *
        clear HPS1 HG
        go_wp2
        go_roundw
        case rel => exact ⟨x + 1, by omega, by go_num, by rw [← Nat.add_assoc, HPS2.out]; exact HGE⟩
        case measure => simp [intOf]; omega
    ·obtain rfl : x = N := by omega
     have dx : decide ((x : Int) < (x : Int)) = false := by simp
     rw [← Nat.succ_mul] at HG
     go_wp2
     go_roundw
     case rel => exact ⟨y + 1, by omega, by go_num, HG⟩
     case measure => simp [intOf]; omega
  ·obtain rfl : y = N := by omega
   have dy : decide ((y : Int) < (y : Int)) = false := by simp
   rw [HRES.out] at HG
   obtain ⟨A', C', rfl⟩ := own_form HG.out.own
   have HO : Hid (OwnP wr w.heap.size A' RES.length C' RES) := Lib.hid ⟨rfl, own_baseV HG.out.own (Nat.le_of_lt hs0)⟩
   have HBL := Lib.hid (hbw.trans (HG.out.bel.mono (Nat.le_of_lt hs0)))
   clear HG HTO HON HPS HPL
   go_wp2
   go_ret
   exact ⟨⟨A', C', rfl, HO.out⟩, HBL.out⟩
end
end Go.Proofs.YtajdoobkfbdgoaaGreatDoor
