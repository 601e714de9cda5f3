/- Lemmas and contracts of functions (what each call returns, and that it changes nothing that was there) that the proof of a law of this seat uses; each lemma states its own conditions. -/
import Derived.Test.YtpmecoojhjopcaaCd2
import Derived.Test.YtpmecoojhjopcaaQ4
namespace Go.Proofs.Ytpmecoojhjopcaa
open Go.RowKit
set_option linter.unusedVariables false
set_option linter.unusedSimpArgs false
/-- A list of bytes, made by the call. -/
def B8Post (L : List Nat) (w : World) (r : Ending) (w' : World) : Prop := ∃ A C, r = .returned (.slice A L.length C) ∧ IsB8 w' A L.length L ∧ (A = none → C = 0) ∧ Below w.heap.size w w' ∧ (∀ b o, A = some ⟨b, o, none⟩ → w.heap.size ≤ b)
/-- A byte, place by place. -/
def part (f : Nat → Bool) (j : Nat) : Nat → Nat
  | 0 => 0
  | t + 1 => 2 * part f j t + (f (8 * j + t)).toNat
theorem part8 (f : Nat → Bool) (j : Nat) : part f j 8 = byt f j := by
  simp only [part, byt, Nat.add_zero]
  omega
theorem part_le (f : Nat → Bool) (j : Nat) : ∀ t, part f j t < 2 ^ t := by
  intro t
  induction t with
  | zero => simp [part]
  | succ t ih =>
    have := toNat_le (f (8 * j + t))
    rw [part, Nat.pow_succ]
    omega
theorem part_le8 (f : Nat → Bool) (j t : Nat) (h : t ≤ 8) : part f j t < 256 :=
  Nat.lt_of_lt_of_le (part_le f j t) (by
    have : 2 ^ t ≤ 2 ^ 8 := Nat.pow_le_pow_right (by omega) h
    simpa using this)
theorem punch_take {r : List Bool} {j : Nat} (h : j < (r.length + 7) / 8) : (punchL r).take (j + 1) = (punchL r).take j ++ [byt (fun i => r.getD i false) j] := by
  rw [List.take_add_one, List.getElem?_eq_getElem (by rw [punchL_len]; exact h)]
  have := punchL_get h
  rw [List.getD_eq_getElem?_getD, List.getElem?_eq_getElem (by rw [punchL_len]; exact h)] at this
  simp only [Option.getD_some] at this
  rw [this]; rfl
theorem owns_b8 {w : World} {base n : Nat} {v : Value} {L : List Nat} (hn : L.length = n) (h : w.ownsRow base 5 1 v n (L.map u8v)) : ∃ a c, v = .slice a n c ∧ IsB8 w a n L ∧ (a = none → c = 0) ∧ ∀ b o, a = some ⟨b, o, none⟩ → base ≤ b := by
  subst hn
  obtain ⟨a, c, rfl, h1, h2⟩ := IsB8.of_owns h
  refine ⟨a, c, rfl, h1, fun e => ?_, h2⟩
  subst e
  rcases h.2 with ⟨e1, _⟩ | ⟨g, cap, cur, e1, _⟩
  · injection e1
  · cases e1
theorem rowL_get' {bs : List Bool} {W y i : Nat} (h : i < W) : (rowL bs W y).getD i false = bs.getD (y * W + i) false := by unfold rowL; simp [List.getD, h]
set_option maxRecDepth 100000 in
set_option maxHeartbeats 8000000 in
theorem rHoles_any (W H n y : Nat) (a : Option Addr) (c : Nat) (bs : List Bool) (w : World) (hI : IsBools w a n bs) (hW : W ≤ 64) (hy : y < 64) (hyn : (y + 1) * W ≤ n) (hn4 : n ≤ 4096) :
    Calls Try.prog 26 #[.agg #[.int .i64 (W), .int .i64 (H), .slice a n c], .int .i64 (y)] w (B8Post (punchL (rowL bs W y)) w) := by
  have HBIT := Lib.hid (fun w x p h1 h2 h3 (h4 : x ≤ 64) => rBit_ok W H n a c bs w h1 y x p h2 h3 hn4 (by omega) (by omega) (by omega))
  have HI := Lib.hid hI
  have HRG : Hid (∀ i, i < W → (rowL bs W y).getD i false = bs.getD (y * W + i) false) := Lib.hid fun i h => rowL_get' h
  have HRL : Hid ((rowL bs W y).length = W) := Lib.hid (rowL_len' bs W y)
  have HYN : Hid (y * W + W ≤ n) := Lib.hid (by rw [Nat.add_mul, Nat.one_mul] at hyn; exact hyn)
  obtain ⟨R, hR⟩ : ∃ R, rowL bs W y = R := ⟨_, rfl⟩
  rw [hR] at HRG HRL ⊢
  have HPT : Hid (∀ j, j < (W + 7) / 8 → (punchL R).take (j + 1) = (punchL R).take j ++ [byt (fun i => R.getD i false) j]) := Lib.hid fun j h => punch_take (by rw [HRL.out]; exact h)
  have HPLL : Hid ((punchL R).length = (W + 7) / 8) := Lib.hid (by rw [punchL_len, HRL.out])
  clear hI hyn hR
  go_enter Try.func26, Try.ntmps26
  go_wp2_with fail
  have hq1 := tF_alloc w W H (.slice a n c) rfl
  have hb1 : Below w.heap.size w (w.alloc (.cells #[.int .i64 (W), .int .i64 (H), .slice a n c] 24)) := (by repeat (first | exact Below.refl _ _ | refine Below.drew ?_ | refine below_drewN ?_ _ | refine Below.alloc ?_ (by first | exact Nat.le_refl _ | (simp; done) | (simp; omega) | omega) _ | refine Below.setCell ?_ (by first | exact Nat.le_refl _ | (simp; done) | (simp; omega) | omega) _ | refine bExtW ?_ (by first | exact Nat.le_refl _ | (simp; done) | (simp; omega) | omega) | refine Below.trans ?_ (Below.mono (by assumption) (by first | exact Nat.le_refl _ | (simp; done) | (simp; omega) | omega))))
  generalize w.alloc (.cells #[.int .i64 (W), .int .i64 (H), .slice a n c] 24) = W1 at *
  generalize hqe : w.heap.size = q at *
  have HQE := Lib.hid hqe
  obtain ⟨base, hbase⟩ : ∃ b, b = W1.heap.size := ⟨_, rfl⟩
  have hqb : q < base := by rw [hbase]; exact hq1.lt
  have HQ := Lib.hid hq1; have HB1 := Lib.hid hb1; have HBS := Lib.hid hbase
  have hb0 : base ≤ W1.heap.size := by omega
  clear hqe hq1 hb1 hbase
  go_loopw [5, 6] (fun ov xv wr => ∃ (j : Nat) (v : Value), j ≤ (W + 7) / 8 ∧ xv = .int .i64 ((8 * j : Nat)) ∧ ov = v ∧ wr.ownsRow base 5 1 v j (((punchL R).take j).map u8v) ∧ Below base W1 wr) (fun _ xv _ => 64 + W - (intOf xv).toNat)
  case atStart => exact ⟨0, _, by omega, rfl, rfl, World.ownsRow_nil _ _ _ _, Below.refl _ _⟩
  case round =>
    obtain ⟨j, v, hj, rfl, rfl, hown, hbel⟩ := hrel
    obtain ⟨A, cp, rfl⟩ := own_form hown
    have HO := Lib.hid hown; have HB := Lib.hid hbel
    have hs := hbel.size
    have hqr := rowBelow HQ.out hbel hqb
    have q0 : wr.cell? ⟨q, 0, none⟩ = some (.int .i64 (W)) := hqr.cell (i := 0) (by omega)
    have lq : LtW q wr := hqr.lt
    clear hown hbel hqr
    obtain ⟨X, hX⟩ : ∃ X, 8 * j = X := ⟨_, rfl⟩
    have HX := Lib.hid hX
    rw [hX]
    by_cases hjW : X < W
    · have hj7 : j < (W + 7) / 8 := by omega
      clear hX
      go_wp2_with fail
      obtain ⟨wo, rfl⟩ : ∃ wo : World, wo = wr := ⟨_, rfl⟩
      clear q0
      have HIW := Lib.hid (HI.out.below (by rw [HQE.out]; exact HB1.out.trans (HB.out.mono (by omega)) : Below w.heap.size w wo))
      go_loopw [7, 8] (fun nv kv wr => ∃ (t : Nat) (E : Array Obj) (d : Nat), t ≤ 8 ∧ nv = .int .i64 ((part (fun i => R.getD i false) j t : Nat)) ∧ kv = .int .i64 ((X + t : Nat)) ∧ wr = extW wo E d) (fun _ kv _ => X + 8 - (intOf kv).toNat)
      case atStart => exact ⟨0, _, _, by omega, rfl, by simp, extW_zero _⟩
      case round =>
        obtain ⟨t, E, d, ht, rfl, rfl, rfl⟩ := hrel
        have hqr : Hid ((extW wo E d).rowIs q 24 3 (tF W H (.slice a n c))) := Lib.hid (rowBelow HQ.out (HB.out.trans (bExtW (Below.refl base wo) (by omega))) hqb)
        have q0 : (extW wo E d).cell? ⟨q, 0, none⟩ = some (.int .i64 (W)) := hqr.out.cell (i := 0) (by omega)
        have q1 : (extW wo E d).cell? ⟨q, 1, none⟩ = some (.int .i64 (H)) := hqr.out.cell (i := 1) (by omega)
        have q2 : (extW wo E d).cell? ⟨q, 2, none⟩ = some (.slice a n c) := hqr.out.cell (i := 2) (by omega)
        have lq2 : LtW q (extW wo E d) := hqr.out.lt
        by_cases ht8 : t < 8
        · have HPS : Hid (part (fun i => R.getD i false) j (t + 1) = 2 * part (fun i => R.getD i false) j t + (R.getD (X + t) false).toNat) := Lib.hid (by rw [← HX.out]; rfl)
          have hpl := part_le8 (fun i => R.getD i false) j (t + 1) (by omega)
          rw [HPS.out] at hpl
          obtain ⟨pv, hpv⟩ : ∃ pv, part (fun i => R.getD i false) j t = pv := ⟨_, rfl⟩
          rw [hpv] at hpl HPS ⊢
          clear hpv
          by_cases hkW : X + t < W
          · have HRT := Lib.hid (HRG.out (X + t) hkW)
            obtain ⟨p, hp⟩ : ∃ p, y * W + (X + t) = p := ⟨_, rfl⟩
            have hlt : p < n := by have := HYN.out; omega
            obtain ⟨K, hK⟩ : ∃ K, X + t = K := ⟨_, rfl⟩
            have HIx := Lib.hid (HIW.out.below (bExtW (Below.refl _ _) (Nat.le_refl _) : Below wo.heap.size wo (extW wo E d)))
            have HBC := Lib.hid (fun wq h => HBIT.out wq K p h (by rw [← hK]; exact hp) hlt (by omega))
            have HKX := Lib.hid hK
            rw [hp] at HRT
            rw [hK] at HRT HPS hpl hkW ⊢
            have hKX : K < X + 8 := by omega
            clear hp hK
            obtain ⟨bit, hbit⟩ : ∃ bit, bs.getD p false = bit := ⟨_, rfl⟩
            rw [hbit] at HBC HRT
            rw [HRT.out] at hpl HPS
            clear hbit HRT
            cases bit with
            | false =>
              go_wp2_with fail
              refine (HBC.out _ HIx.out).mono ?_
              rintro r w1 ⟨rfl, hb⟩
              obtain ⟨E1, d1, rfl⟩ := bExt hb
              clear hb
              rw [extW_extW]
              go_wp2
              go_roundw
              case rel => exact ⟨t + 1, _, _, by omega, by rw [HPS.out]; go_num, by rw [← HKX.out]; go_num, rfl⟩
              case measure => simp [intOf]; omega
            | true =>
              go_wp2_with fail
              refine (HBC.out _ HIx.out).mono ?_
              rintro r w1 ⟨rfl, hb⟩
              obtain ⟨E1, d1, rfl⟩ := bExt hb
              clear hb
              rw [extW_extW]
              go_wp2
              go_roundw
              case rel => exact ⟨t + 1, _, _, by omega, by rw [HPS.out]; go_num, by rw [← HKX.out]; go_num, rfl⟩
              case measure => simp [intOf]; omega
          · have hf : R.getD (X + t) false = false := by
              rw [List.getD_eq_getElem?_getD, List.getElem?_eq_none (by rw [HRL.out]; omega)]; rfl
            rw [hf] at hpl HPS
            obtain ⟨K, hK⟩ : ∃ K, X + t = K := ⟨_, rfl⟩
            have HKX := Lib.hid hK
            rw [hK] at hkW ⊢
            have hKX : K < X + 8 := by omega
            clear hK hf
            go_wp2
            go_roundw
            case rel => exact ⟨t + 1, _, _, by omega, by rw [HPS.out]; go_num, by rw [← HKX.out]; go_num, rfl⟩
            case measure => simp [intOf]; omega
        · obtain rfl : t = 8 := by omega
          have hpl := part_le8 (fun i => R.getD i false) j 8 (by omega)
          have HPE := Lib.hid (part8 (fun i => R.getD i false) j)
          have HTK := Lib.hid (HPT.out j hj7)
          rw [← HPE.out] at HTK
          obtain ⟨pv, hpv⟩ : ∃ pv, part (fun i => R.getD i false) j 8 = pv := ⟨_, rfl⟩
          rw [hpv] at hpl HTK ⊢
          have v1 : IntKind.u8.wrap (pv : Int) = (pv : Int) := IntWalk.u8_in _ (by omega)
          have hbx : Below base W1 (extW wo E d) := HB.out.trans (bExtW (Below.refl base wo) (by omega))
          have HOx := Lib.hid (ownBelow HO.out (bExtW (Below.refl _ _) (Nat.le_refl _) : Below wo.heap.size wo (extW wo E d)))
          have HBx := Lib.hid hbx
          have hsx := hbx.size
          clear hpv hbx HPE HO HB
          generalize extW wo E d = wx at *
          go_wp2_with (at_builtin; refine wpApp8 rfl (.tmp 36) (.tmp 39) rfl base _ j ((punchL R).take j) [pv] wx.heap.size 0 1 rfl (ownBelow HOx.out (Below.alloc (Below.refl _ _) (Nat.le_refl _) (.cells #[.int .u8 (pv : Int)] 5))) rfl (fun j hj => ?_) (by simp; omega) (by simp; omega) ?_)
          · have hj2 : j = 0 := by simp at hj; exact hj
            subst hj2
            simp
          intro v' w3 hown3 hb3
          have hb3 : Below base wx w3 := Below.trans (Below.alloc (Below.refl _ _) (by omega) _) hb3
          obtain ⟨A4, cp4, rfl⟩ := own_form hown3
          have HO3 := Lib.hid hown3
          have HB3 := Lib.hid (HBx.out.trans hb3)
          clear hown3 hb3 HOx HBx
          go_wp2
          go_roundw
          case rel => exact ⟨j + 1, _, by omega, by rw [← HX.out]; go_num, rfl, by rw [HTK.out, List.map_append, List.map_take]; exact HO3.out, HB3.out⟩
          case measure => simp [intOf]; omega
    · have hjj : j = (W + 7) / 8 := by omega
      have HTA : Hid ((punchL R).take j = punchL R) := Lib.hid (List.take_of_length_le (by rw [HPLL.out]; omega))
      have HJ : Hid ((punchL R).length = j) := Lib.hid (by rw [HPLL.out, hjj])
      clear hX hjj
      go_wp2
      go_ret
      unfold B8Post
      rw [HJ.out]
      obtain ⟨a9, c9, e9, h1, h2, h3⟩ := owns_b8 (L := punchL R) HJ.out (by have := HO.out; rwa [HTA.out] at this)
      injection e9 with e1 _ e2
      subst e1 e2
      exact ⟨A, cp, rfl, h1, h2, by rw [HQE.out]; exact HB1.out.trans (HB.out.mono (by omega)), fun b o e => by have := h3 b o e; have := HQE.out; omega⟩
theorem sum_le (l : List Nat) (h : ∀ x ∈ l, x < 256) : l.sum ≤ 255 * l.length := by
  induction l with
  | nil => simp
  | cons x l ih =>
    have h1 := h x (by simp)
    have h2 := ih (fun y hy => h y (by simp [hy]))
    simp only [List.sum_cons, List.length_cons]
    omega
set_option maxRecDepth 100000 in
set_option maxHeartbeats 8000000 in
theorem rCheck_any (a : Option Addr) (n c : Nat) (l : List Nat) (w : World) (hi : IsB8 w a n l) (hn : n ≤ 1000000) (hl : ∀ x ∈ l, x < 256) :
    Calls Try.prog 27 #[.slice a n c] w fun e w' => e = .returned (.int .u8 (chk l : Nat)) ∧ Below w.heap.size w w' := by
  have HI := Lib.hid hi; have HL := Lib.hid hi.1; have HB := Lib.hid hl
  clear hi hl
  go_enter Try.func27, Try.ntmps27
  go_wp2_with fail
  go_loopw [8, 3] (fun i m wr => ∃ k : Nat, k ≤ n ∧ i = .int .i64 k ∧ m = .int .i64 (((l.take k).sum : Nat)) ∧ Below w.heap.size w wr) (fun i _ _ => n - (intOf i).toNat)
  case atStart => exact ⟨0, Nat.zero_le _, rfl, rfl, Below.refl _ _⟩
  case round =>
    obtain ⟨k, hk, rfl, rfl, hbel⟩ := hrel
    have HBL := Lib.hid hbel
    by_cases hkn : k < n
    · obtain ⟨b, o, rfl, hb, hc⟩ := (HI.out.below hbel).2 (by omega)
      have c0 := hc k hkn
      have lb : LtW b wr := hb
      have hx : l.getD k 0 < 256 := HB.out _ (getD_memN (by rw [HL.out]; exact hkn))
      have HS := Lib.hid (take_sum (l := l) (k := k) (by rw [HL.out]; exact hkn))
      obtain ⟨x, hxe⟩ : ∃ x, l.getD k 0 = x := ⟨_, rfl⟩
      rw [hxe] at c0 hx HS
      have hsl : (l.take k).sum ≤ 255 * k := by
        have h1 := sum_le (l.take k) (fun x hx => HB.out x (List.mem_of_mem_take hx))
        rw [List.length_take, HL.out, Nat.min_eq_left (by omega)] at h1
        exact h1
      obtain ⟨s, hs⟩ : ∃ s, (l.take k).sum = s := ⟨_, rfl⟩
      rw [hs] at HS hsl ⊢
      have v1 : IntKind.i64.wrap (x : Int) = (x : Int) := IntWalk.i64_in _ (by omega)
      clear hc hb hxe hs hbel
      go_wp2
      go_roundw
      case rel => exact ⟨k + 1, by omega, by go_num, by rw [HS.out]; go_num, HBL.out⟩
      case measure => simp [intOf]; omega
    · obtain rfl : n = k := by omega
      have HT : Hid (l.take n = l) := Lib.hid (List.take_of_length_le (by rw [HL.out]; exact Nat.le_refl _))
      rw [HT.out]
      have hsl : l.sum ≤ 255 * n := by
        have h1 := sum_le l HB.out
        rw [HL.out] at h1
        exact h1
      have HC : Hid (chk l = (256 - l.sum % 256) % 256) := Lib.hid rfl
      obtain ⟨s, hs⟩ : ∃ s, l.sum = s := ⟨_, rfl⟩
      rw [hs] at HC hsl ⊢
      obtain ⟨ck, hck⟩ : ∃ ck, chk l = ck := ⟨_, rfl⟩
      have hckl : ck < 256 := by rw [← hck]; exact chk_lt l
      have HCK := Lib.hid hck
      rw [hck] at HC
      have v1 : (256 - (s : Int) % 256) % 256 = (ck : Int) := by rw [HC.out]; omega
      have v2 : (256 - (s : Int).tmod 256).tmod 256 = (ck : Int) := by
        rw [Int.tmod_eq_emod_of_nonneg (a := (s : Int)) (by omega), Int.tmod_eq_emod_of_nonneg (by omega), v1]
      have v3 : IntKind.u8.wrap (ck : Int) = (ck : Int) := IntWalk.u8_in _ (by omega)
      clear hs hck
      go_wp2
      go_ret
      exact ⟨by rw [HCK.out]; rfl, HBL.out⟩
end Go.Proofs.Ytpmecoojhjopcaa
