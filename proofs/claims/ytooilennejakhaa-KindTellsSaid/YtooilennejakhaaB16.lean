/- Lemmas and contracts of functions (what each call returns, and that it changes nothing that was there) that the proof of a law of this seat uses; each lemma states its own conditions. -/
import Derived.Test.YtooilennejakhaaB15
namespace Go.Proofs.Ytooilennejakhaa
open Go.RowKit
set_option linter.unusedVariables false
set_option linter.unusedSimpArgs false
open Z (torN place pnt Mv To lin okT nrm keepB colP)
set_option maxRecDepth 100000 in
set_option maxHeartbeats 8000000 in
theorem rTorus_bad (G W H : Int) (a : Option Addr) (n c : Nat) (cs : List Int) (w : World) (hI : IsInts w a n cs) (h0 : (-9223372036854775808 ≤ G ∧ G ≤ 9223372036854775807)) (h1 : (-9223372036854775808 ≤ W ∧ W ≤ 9223372036854775807)) (h2 : (-9223372036854775808 ≤ H ∧ H ≤ 9223372036854775807)) (h3 : n ≤ 9223372036854775807) (he : chE G W H n cs ≠ 0) :
    Calls Try.prog 31 #[.agg #[.int .i64 (G), .int .i64 (W), .int .i64 (H), .slice a n c]] w fun e w' => e = .returned (.tuple #[.int .i64 (0), .int .i64 (chE G W H n cs)]) ∧ Below w.heap.size w w' := by
  have hb : (chE G W H n cs != 0) = true := by simpa using he
  have HT := Lib.hid (fun w hI => r2Wrong_any G W H a n c cs w hI h0 h1 h2 h3)
  have HI := Lib.hid hI
  clear he hI
  generalize chE G W H n cs = q at *
  go_enter Try.func31, Try.ntmps31
  (go_wp2_with fail; refine (HT.out _ (HI.out.below (by repeat (first | exact Below.refl _ _ | refine Below.drew ?_ | refine below_drewN ?_ _ | refine Below.alloc ?_ (by first | exact Nat.le_refl _ | (simp; done) | (simp; omega) | omega) _ | refine Below.setCell ?_ (by first | exact Nat.le_refl _ | (simp; done) | (simp; omega) | omega) _ | refine bExtW ?_ (by first | exact Nat.le_refl _ | (simp; done) | (simp; omega) | omega) | refine Below.trans ?_ (Below.mono (by assumption) (by first | exact Nat.le_refl _ | (simp; done) | (simp; omega) | omega)))))).mono ?_; rintro r w1 ⟨rfl, hb⟩; obtain ⟨E, d, rfl⟩ := bExt hb; clear hb)
  go_wp2
  go_ret2
  exact ⟨rfl, (by repeat (first | exact Below.refl _ _ | refine Below.drew ?_ | refine below_drewN ?_ _ | refine Below.alloc ?_ (by first | exact Nat.le_refl _ | (simp; done) | (simp; omega) | omega) _ | refine Below.setCell ?_ (by first | exact Nat.le_refl _ | (simp; done) | (simp; omega) | omega) _ | refine bExtW ?_ (by first | exact Nat.le_refl _ | (simp; done) | (simp; omega) | omega) | refine Below.trans ?_ (Below.mono (by assumption) (by first | exact Nat.le_refl _ | (simp; done) | (simp; omega) | omega))))⟩
set_option maxRecDepth 100000 in
set_option maxHeartbeats 8000000 in
theorem rTorus_ok (G W H n : Nat) (a : Option Addr) (c : Nat) (cs : List Int) (w : World) (hI : IsInts w a n cs) (h : ChOk G W H n cs) :
    Calls Try.prog 31 #[.agg #[.int .i64 (G), .int .i64 (W), .int .i64 (H), .slice a n c]] w fun e w' => e = .returned (torV (torN W H)) ∧ Below w.heap.size w w' := by
  have hn4 := h.n4
  have HR := Lib.hid (fun w hI => r2Wrong_any G W H a n c cs w hI (by have := h.g; omega) (by have := h.w2; omega) (by have := h.h2; omega) (by omega))
  rw [h.e] at HR
  have HI := Lib.hid hI
  have hW := h.w2; have hH := h.h2; have hW1 := h.w1; have hH1 := h.h1
  have hNl := h.tle
  have hdv := (Z.torN_dvd W H).2
  have HMIN : Hid (∀ k, 0 < k → H ∣ W * k → torN W H ≤ W * k) := Lib.hid fun k hk hd => Z.torN_min hW1 hH1 hk hd
  obtain ⟨K, hK⟩ : ∃ K, H / Nat.gcd W H = K := ⟨_, rfl⟩
  have HNK : Hid (torN W H = W * K) := Lib.hid (by rw [Z.torN_eq, hK])
  have hK1 : 1 ≤ K := by
    rw [← hK]
    exact Nat.div_pos (Nat.le_of_dvd hH1 (Nat.gcd_dvd_right W H)) (Nat.gcd_pos_of_pos_left H hW1)
  generalize torN W H = N at *
  have HDV := Lib.hid hdv
  have b1 : ((H : Int) == 0) = false := by simp; omega
  have b2 : (H : Int) ≠ 0 := by omega
  have b3 : ¬ H = 0 := by omega
  clear hI hn4 hK h hdv
  go_enter Try.func31, Try.ntmps31
  (go_wp2_with fail; refine (HR.out _ (HI.out.below (by repeat (first | exact Below.refl _ _ | refine Below.drew ?_ | refine below_drewN ?_ _ | refine Below.alloc ?_ (by first | exact Nat.le_refl _ | (simp; done) | (simp; omega) | omega) _ | refine Below.setCell ?_ (by first | exact Nat.le_refl _ | (simp; done) | (simp; omega) | omega) _ | refine bExtW ?_ (by first | exact Nat.le_refl _ | (simp; done) | (simp; omega) | omega) | refine Below.trans ?_ (Below.mono (by assumption) (by first | exact Nat.le_refl _ | (simp; done) | (simp; omega) | omega)))))).mono ?_; rintro r w1 ⟨rfl, hb⟩; obtain ⟨E, d, rfl⟩ := bExt hb; clear hb)
  go_wp2_with fail
  go_loopw [5] (fun nv wr => ∃ (k P : Nat) (E : Array Obj) (d : Nat), k ≤ K ∧ 1 ≤ k ∧ nv = .int .i64 P ∧ P ≤ N ∧ Hid (W * k = P) ∧ wr = extW (w.alloc (.cells #[.int .i64 (G : Int), .int .i64 (W : Int), .int .i64 (H : Int), .slice a n c] 24)) E d) (fun nv _ => N - (intOf nv).toNat)
  case atStart => exact ⟨1, W, E, d, hK1, by omega, by go_num, by have h1 := HNK.out; have h2 : W * 1 ≤ W * K := Nat.mul_le_mul_left W hK1; omega, Lib.hid (by rw [Nat.mul_one]), rfl⟩
  case round =>
    obtain ⟨k, P, E1, d1, hk, hk1, rfl, hPN, HP, rfl⟩ := hrel
    obtain ⟨r, hr⟩ : ∃ r, P % H = r := ⟨_, rfl⟩
    have t1 : (P : Int).tmod (H : Int) = (r : Int) := by rw [← hr]; rfl
    have hrH : r < H := by rw [← hr]; exact Nat.mod_lt _ hH1
    have v1 : IntKind.i64.wrap (r : Int) = (r : Int) := IntWalk.i64_in _ (by omega)
    by_cases hkK : k = K
    · have e1 : P = N := by rw [← HP.out, hkK, ← HNK.out]
      have hr0 : r = 0 := by rw [← hr, e1]; exact Nat.mod_eq_zero_of_dvd HDV.out
      subst e1 hr0
      clear hr hkK
      by_cases hm : 24 < P
      · have d1 : decide (24 < P) = true := by simpa using hm
        have d2 : decide ((P : Int) > 24) = true := by simp; omega
        have HV : Hid (torV P = .tuple #[.int .i64 (0), .int .i64 (4)]) := Lib.hid (by unfold torV; rw [if_pos hm])
        go_wp2
        go_ret2
        exact ⟨by rw [HV.out]; rfl, (by repeat (first | exact Below.refl _ _ | refine Below.drew ?_ | refine below_drewN ?_ _ | refine Below.alloc ?_ (by first | exact Nat.le_refl _ | (simp; done) | (simp; omega) | omega) _ | refine Below.setCell ?_ (by first | exact Nat.le_refl _ | (simp; done) | (simp; omega) | omega) _ | refine bExtW ?_ (by first | exact Nat.le_refl _ | (simp; done) | (simp; omega) | omega) | refine Below.trans ?_ (Below.mono (by assumption) (by first | exact Nat.le_refl _ | (simp; done) | (simp; omega) | omega))))⟩
      · have d1 : decide (24 < P) = false := by simpa using hm
        have d2 : decide ((P : Int) > 24) = false := by simp; omega
        have HV : Hid (torV P = .tuple #[.int .i64 (P), .int .i64 (0)]) := Lib.hid (by unfold torV; rw [if_neg hm])
        go_wp2
        go_ret2
        exact ⟨by rw [HV.out]; rfl, (by repeat (first | exact Below.refl _ _ | refine Below.drew ?_ | refine below_drewN ?_ _ | refine Below.alloc ?_ (by first | exact Nat.le_refl _ | (simp; done) | (simp; omega) | omega) _ | refine Below.setCell ?_ (by first | exact Nat.le_refl _ | (simp; done) | (simp; omega) | omega) _ | refine bExtW ?_ (by first | exact Nat.le_refl _ | (simp; done) | (simp; omega) | omega) | refine Below.trans ?_ (Below.mono (by assumption) (by first | exact Nat.le_refl _ | (simp; done) | (simp; omega) | omega))))⟩
    · have hkl : k < K := by omega
      have hr0 : r ≠ 0 := by
        intro e
        have h1 : H ∣ W * k := by rw [HP.out]; exact Nat.dvd_of_mod_eq_zero (by omega)
        have h2 := HMIN.out k (by omega) h1
        have h3 : W * k < W * K := Nat.mul_lt_mul_of_pos_left hkl hW1
        have h4 := HNK.out
        omega
      have d1 : ((r : Int) != 0) = true := by simp; omega
      have hPW : P + W ≤ N := by
        have h2 : W * (k + 1) ≤ W * K := Nat.mul_le_mul_left W (by omega)
        have h3 := HNK.out
        have h4 := HP.out
        rw [Nat.mul_succ] at h2
        omega
      have v2 : IntKind.i64.wrap ((P : Int) + (W : Int)) = (P : Int) + (W : Int) := IntWalk.i64_in _ (by omega)
      clear hr
      go_wp2
      go_roundw
      case rel => exact ⟨k + 1, P + W, _, _, by omega, by omega, by push_cast; rfl, hPW, Lib.hid (by rw [Nat.mul_succ, HP.out]), rfl⟩
      case measure => simp [intOf]; omega
theorem pnt_at {m x y : Nat} (hx : x < m) : pnt m (y * m + x) = ((x : Int), (y : Int)) := by
  unfold pnt
  rw [Nat.mul_comm, Nat.mul_add_mod, Nat.mod_eq_of_lt hx, Nat.mul_add_div (by omega), Nat.div_eq_of_lt hx, Nat.add_zero]
theorem row_lt {m x y : Nat} (hx : x < m) (hy : y < m) : y * m + x < m * m := by
  have h1 : (y + 1) * m ≤ m * m := Nat.mul_le_mul_right m (by omega)
  rw [Nat.succ_mul] at h1
  omega
theorem keepB_true {W H m : Nat} {cs : List Int} {g : Int} {v : Mv} (h : ∀ k, k < m * m → colP W H cs (pnt m k) = colP W H cs (To g v (pnt m k))) : keepB W H cs g m v = true := by
  unfold keepB; rw [List.all_eq_true]; exact fun k hk => decide_eq_true (h k (List.mem_range.1 hk))
theorem keepB_false {W H m k : Nat} {cs : List Int} {g : Int} {v : Mv} (hk : k < m * m) (h : ¬ colP W H cs (pnt m k) = colP W H cs (To g v (pnt m k))) : keepB W H cs g m v = false := by
  unfold keepB; rw [List.all_eq_false]; exact ⟨k, List.mem_range.2 hk, by simpa using h⟩
set_option maxRecDepth 100000 in
set_option maxHeartbeats 8000000 in
theorem Kept_ok (G W H n m t : Nat) (f : Bool) (ox oy : Int) (a : Option Addr) (c : Nat) (cs : List Int) (w : World) (hI : IsInts w a n cs) (h : ChOk G W H n cs) (hm : m ≤ 24) (ht : t < G) (hx : -1048576 ≤ ox ∧ ox ≤ 1048576) (hy : -1048576 ≤ oy ∧ oy ≤ 1048576) :
    Calls Try.prog 47 #[.agg #[.int .i64 (G), .int .i64 (W), .int .i64 (H), .slice a n c], .int .i64 (m), .agg #[.int .i64 (t), .bool (f), .int .i64 (ox), .int .i64 (oy)]] w fun e w' => e = .returned (.bool (keepB W H cs G m ⟨t, f, (ox, oy)⟩)) ∧ Below w.heap.size w w' := by
  have hg : (G : Int) = 4 ∨ (G : Int) = 6 := by have := h.g; omega
  have ht6 : t ≤ 6 := by have := h.g; omega
  have HTO := Lib.hid (fun (x y : Int) w (h1 : 0 ≤ x ∧ x ≤ 24) (h2 : 0 ≤ y ∧ y ≤ 24) => rTo_any G x y ox oy t f w hg ht6 (Int.le_trans (Z.nrm_bd hg (a := (x,y)) (B := 24) (by simp only; omega) (by simp only; omega)) (by decide)) (by omega) (by omega))
  have HTB := Lib.hid (fun (x y : Int) (h1 : 0 ≤ x ∧ x ≤ 24) (h2 : 0 ≤ y ∧ y ≤ 24) => lin_small hg t f h1 h2)
  have HC := Lib.hid (fun (x y : Int) w hI hx hy => Cell_ok G W H n a c cs x y w hI h.w1 h.w2 h.h1 h.h2 h.hn hx hy)
  have HF : Hid (∀ x y : Nat, x < m → y < m → ¬ colP W H cs ((x : Int), (y : Int)) = colP W H cs (To G ⟨t, f, (ox, oy)⟩ ((x : Int), (y : Int))) → keepB W H cs G m ⟨t, f, (ox, oy)⟩ = false) := Lib.hid fun x y hx hy he => keepB_false (row_lt hx hy) (by rw [pnt_at hx]; exact he)
  have HTr : Hid ((∀ j, j < m * m → colP W H cs (pnt m j) = colP W H cs (To G ⟨t, f, (ox, oy)⟩ (pnt m j))) → keepB W H cs G m ⟨t, f, (ox, oy)⟩ = true) := Lib.hid fun h => keepB_true h
  have HI := Lib.hid hI
  clear hI h ht ht6 hg
  generalize keepB W H cs G m ⟨t, f, (ox, oy)⟩ = kk at *
  go_enter Try.func47, Try.ntmps47
  go_wp2_with fail
  go_loopw [7] (fun yv wr => ∃ (y : Nat) (E : Array Obj) (d : Nat), y ≤ m ∧ yv = .int .i64 y ∧ Hid (∀ j, j < y * m → colP W H cs (pnt m j) = colP W H cs (To G ⟨t, f, (ox, oy)⟩ (pnt m j))) ∧ wr = extW ((w.alloc (.cells #[.int .i64 (G : Int), .int .i64 (W : Int), .int .i64 (H : Int), .slice a n c] 24)).alloc (.cells #[.int .i64 t, .bool f, .int .i64 ox, .int .i64 oy] 39)) E d) (fun yv _ => m - (intOf yv).toNat)
  case atStart => exact ⟨0, #[], _, by omega, rfl, Lib.hid fun j h => absurd h (by omega), extW_zero _⟩
  case round =>
    obtain ⟨y, E1, d1, hy1, rfl, HKY, rfl⟩ := hrel
    by_cases hym : y < m
    · have vy : IntKind.i64.wrap ((y : Int) + 1) = (y : Int) + 1 := IntWalk.i64_in _ (by omega)
      have dy : decide ((y : Int) < (m : Int)) = true := by simpa using hym
      go_wp2_with fail
      go_loopw [8] (fun xv wr => ∃ (x : Nat) (E : Array Obj) (d : Nat), x ≤ m ∧ xv = .int .i64 x ∧ Hid (∀ j, j < y * m + x → colP W H cs (pnt m j) = colP W H cs (To G ⟨t, f, (ox, oy)⟩ (pnt m j))) ∧ wr = extW ((w.alloc (.cells #[.int .i64 (G : Int), .int .i64 (W : Int), .int .i64 (H : Int), .slice a n c] 24)).alloc (.cells #[.int .i64 t, .bool f, .int .i64 ox, .int .i64 oy] 39)) E d) (fun xv _ => m - (intOf xv).toNat)
      case atStart => exact ⟨0, E1, d1, by omega, rfl, HKY, rfl⟩
      case round =>
        obtain ⟨x, E2, d2, hx1, rfl, HKX, rfl⟩ := hrel
        by_cases hxm : x < m
        · have vx : IntKind.i64.wrap ((x : Int) + 1) = (x : Int) + 1 := IntWalk.i64_in _ (by omega)
          have dx : decide ((x : Int) < (m : Int)) = true := by simpa using hxm
          have HTO1 := Lib.hid (fun w => HTO.out (x : Int) (y : Int) w (by omega) (by omega))
          have hb := HTB.out (x : Int) (y : Int) (by omega) (by omega)
          have HF1 := Lib.hid (HF.out x y hxm hym)
          have hpb : (-1050000 ≤ (To G ⟨t, f, (ox, oy)⟩ ((x : Int), (y : Int))).1 ∧ (To G ⟨t, f, (ox, oy)⟩ ((x : Int), (y : Int))).1 ≤ 1050000) ∧ (-1050000 ≤ (To G ⟨t, f, (ox, oy)⟩ ((x : Int), (y : Int))).2 ∧ (To G ⟨t, f, (ox, oy)⟩ ((x : Int), (y : Int))).2 ≤ 1050000) := by
            unfold To Z.add; simp only; omega
          have HNX : Hid (colP W H cs ((x : Int), (y : Int)) = colP W H cs (To G ⟨t, f, (ox, oy)⟩ ((x : Int), (y : Int))) → ∀ j, j < y * m + (x + 1) → colP W H cs (pnt m j) = colP W H cs (To G ⟨t, f, (ox, oy)⟩ (pnt m j))) := Lib.hid fun he j hj => by
            by_cases e : j = y * m + x
            · rw [e, pnt_at hxm]; exact he
            · exact HKX.out j (by omega)
          clear hb HF HTO HTB HTr HKY HKX
          generalize To G ⟨t, f, (ox, oy)⟩ ((x : Int), (y : Int)) = p at *
          obtain ⟨px, py⟩ := p
          have HC1 := Lib.hid (fun w hI => HC.out (x : Int) (y : Int) w hI (by omega) (by omega))
          have HC2 := Lib.hid (fun w hI => HC.out px py w hI (by simp only at hpb; omega) (by simp only at hpb; omega))
          have e1 : cellAt W H cs (x : Int) (y : Int) = colP W H cs ((x : Int), (y : Int)) := rfl
          have e2 : cellAt W H cs px py = colP W H cs (px, py) := rfl
          rw [e1] at HC1
          rw [e2] at HC2
          clear e1 e2 HC hpb
          generalize colP W H cs ((x : Int), (y : Int)) = q1 at *
          generalize colP W H cs (px, py) = q2 at *
          by_cases hq : q1 = q2
          · have hd : (q1 != q2) = false := by simpa using hq
            have HNX2 := Lib.hid (HNX.out hq)
            clear hq HNX HF1
            (go_wp2_with fail; refine (HTO1.out _).mono ?_; rintro r w1 ⟨rfl, hb⟩; obtain ⟨E, d, rfl⟩ := bExt hb; clear hb)
            go_wp2_with fail
            (refine wp_region_ext (by kernel_rfl) (by kernel_rfl) ?_; (repeat (first | ((with_reducible refine ext_step (fun K hK => ?_)); go_simp; first | (refine hK _ ?_; clear hK K) | (apply Exists.intro; refine ⟨fun _ _ => ?_, hK _ ?_⟩; fail; clear hK K)))); ((with_reducible refine ext_step (fun K hK => ?_)); go_simp; (apply Exists.intro; refine ⟨fun _ _ => ?_, hK _ ?_⟩; (go_at_call 52; exact extOf (HC1.out _ (HI.out.below (by repeat (first | exact Below.refl _ _ | refine Below.drew ?_ | refine below_drewN ?_ _ | refine Below.alloc ?_ (by first | exact Nat.le_refl _ | (simp; done) | (simp; omega) | omega) _ | refine Below.setCell ?_ (by first | exact Nat.le_refl _ | (simp; done) | (simp; omega) | omega) _ | refine bExtW ?_ (by first | exact Nat.le_refl _ | (simp; done) | (simp; omega) | omega) | refine Below.trans ?_ (Below.mono (by assumption) (by first | exact Nat.le_refl _ | (simp; done) | (simp; omega) | omega))))))); clear hK K)); (repeat (first | ((with_reducible refine ext_step (fun K hK => ?_)); go_simp; first | (refine hK _ ?_; clear hK K) | (apply Exists.intro; refine ⟨fun _ _ => ?_, hK _ ?_⟩; fail; clear hK K)))); ((with_reducible refine ext_step (fun K hK => ?_)); go_simp; (apply Exists.intro; refine ⟨fun _ _ => ?_, hK _ ?_⟩; (go_at_call 52; exact extOf (HC2.out _ (HI.out.below (by repeat (first | exact Below.refl _ _ | refine Below.drew ?_ | refine below_drewN ?_ _ | refine Below.alloc ?_ (by first | exact Nat.le_refl _ | (simp; done) | (simp; omega) | omega) _ | refine Below.setCell ?_ (by first | exact Nat.le_refl _ | (simp; done) | (simp; omega) | omega) _ | refine bExtW ?_ (by first | exact Nat.le_refl _ | (simp; done) | (simp; omega) | omega) | refine Below.trans ?_ (Below.mono (by assumption) (by first | exact Nat.le_refl _ | (simp; done) | (simp; omega) | omega))))))); clear hK K)); (repeat (first | ((with_reducible refine ext_step (fun K hK => ?_)); go_simp; first | (refine hK _ ?_; clear hK K) | (apply Exists.intro; refine ⟨fun _ _ => ?_, hK _ ?_⟩; fail; clear hK K)))); refine wpQuiet_nil ?_; intro E d)
            go_wp2
            go_roundw
            case rel => exact ⟨x + 1, _, _, by omega, by go_num, HNX2, by simp only [alloc_extW, extW_extW]; rfl⟩
            case measure => simp [intOf]; omega
          · have hd : (q1 != q2) = true := by simpa using hq
            have HV := Lib.hid (HF1.out hq)
            clear hq HNX HF1
            (go_wp2_with fail; refine (HTO1.out _).mono ?_; rintro r w1 ⟨rfl, hb⟩; obtain ⟨E, d, rfl⟩ := bExt hb; clear hb)
            go_wp2_with fail
            (refine wp_region_ext (by kernel_rfl) (by kernel_rfl) ?_; (repeat (first | ((with_reducible refine ext_step (fun K hK => ?_)); go_simp; first | (refine hK _ ?_; clear hK K) | (apply Exists.intro; refine ⟨fun _ _ => ?_, hK _ ?_⟩; fail; clear hK K)))); ((with_reducible refine ext_step (fun K hK => ?_)); go_simp; (apply Exists.intro; refine ⟨fun _ _ => ?_, hK _ ?_⟩; (go_at_call 52; exact extOf (HC1.out _ (HI.out.below (by repeat (first | exact Below.refl _ _ | refine Below.drew ?_ | refine below_drewN ?_ _ | refine Below.alloc ?_ (by first | exact Nat.le_refl _ | (simp; done) | (simp; omega) | omega) _ | refine Below.setCell ?_ (by first | exact Nat.le_refl _ | (simp; done) | (simp; omega) | omega) _ | refine bExtW ?_ (by first | exact Nat.le_refl _ | (simp; done) | (simp; omega) | omega) | refine Below.trans ?_ (Below.mono (by assumption) (by first | exact Nat.le_refl _ | (simp; done) | (simp; omega) | omega))))))); clear hK K)); (repeat (first | ((with_reducible refine ext_step (fun K hK => ?_)); go_simp; first | (refine hK _ ?_; clear hK K) | (apply Exists.intro; refine ⟨fun _ _ => ?_, hK _ ?_⟩; fail; clear hK K)))); ((with_reducible refine ext_step (fun K hK => ?_)); go_simp; (apply Exists.intro; refine ⟨fun _ _ => ?_, hK _ ?_⟩; (go_at_call 52; exact extOf (HC2.out _ (HI.out.below (by repeat (first | exact Below.refl _ _ | refine Below.drew ?_ | refine below_drewN ?_ _ | refine Below.alloc ?_ (by first | exact Nat.le_refl _ | (simp; done) | (simp; omega) | omega) _ | refine Below.setCell ?_ (by first | exact Nat.le_refl _ | (simp; done) | (simp; omega) | omega) _ | refine bExtW ?_ (by first | exact Nat.le_refl _ | (simp; done) | (simp; omega) | omega) | refine Below.trans ?_ (Below.mono (by assumption) (by first | exact Nat.le_refl _ | (simp; done) | (simp; omega) | omega))))))); clear hK K)); (repeat (first | ((with_reducible refine ext_step (fun K hK => ?_)); go_simp; first | (refine hK _ ?_; clear hK K) | (apply Exists.intro; refine ⟨fun _ _ => ?_, hK _ ?_⟩; fail; clear hK K)))); refine wpQuiet_nil ?_; intro E d)
            go_wp2
            go_ret
            exact ⟨by rw [HV.out]; rfl, (by repeat (first | exact Below.refl _ _ | refine Below.drew ?_ | refine below_drewN ?_ _ | refine Below.alloc ?_ (by first | exact Nat.le_refl _ | (simp; done) | (simp; omega) | omega) _ | refine Below.setCell ?_ (by first | exact Nat.le_refl _ | (simp; done) | (simp; omega) | omega) _ | refine bExtW ?_ (by first | exact Nat.le_refl _ | (simp; done) | (simp; omega) | omega) | refine Below.trans ?_ (Below.mono (by assumption) (by first | exact Nat.le_refl _ | (simp; done) | (simp; omega) | omega))))⟩
        · obtain rfl : x = m := by omega
          have dx : decide ((x : Int) < (x : Int)) = false := by simp
          have HKY2 : Hid (∀ j, j < (y + 1) * x → colP W H cs (pnt x j) = colP W H cs (To G ⟨t, f, (ox, oy)⟩ (pnt x j))) := Lib.hid (by rw [Nat.succ_mul]; exact HKX.out)
          clear HF HTO HTB HTr HKY HKX HC
          go_wp2
          go_roundw
          case rel => exact ⟨y + 1, _, _, by omega, by go_num, HKY2, rfl⟩
          case measure => simp [intOf]; omega
    · obtain rfl : y = m := by omega
      have dy : decide ((y : Int) < (y : Int)) = false := by simp
      have HV := Lib.hid (HTr.out HKY.out)
      clear HF HTO HTB HTr HKY HC
      go_wp2
      go_ret
      exact ⟨by rw [HV.out]; rfl, (by repeat (first | exact Below.refl _ _ | refine Below.drew ?_ | refine below_drewN ?_ _ | refine Below.alloc ?_ (by first | exact Nat.le_refl _ | (simp; done) | (simp; omega) | omega) _ | refine Below.setCell ?_ (by first | exact Nat.le_refl _ | (simp; done) | (simp; omega) | omega) _ | refine bExtW ?_ (by first | exact Nat.le_refl _ | (simp; done) | (simp; omega) | omega) | refine Below.trans ?_ (Below.mono (by assumption) (by first | exact Nat.le_refl _ | (simp; done) | (simp; omega) | omega))))⟩
end Go.Proofs.Ytooilennejakhaa
