/- Lemmas and contracts of functions (what each call returns, and that it changes nothing that was there) that the proof of a law of this seat uses; each lemma states its own conditions. -/
import Derived.Test.YtooilennejakhaaB16
import Derived.Test.YtooilennejakhaaB21
namespace Go.Proofs.Ytooilennejakhaa
open Go.RowKit
set_option linter.unusedVariables false
set_option linter.unusedSimpArgs false
open Z (torN place pnt Mv To lin okT)
theorem torus_pt {n : Nat} (hn : 0 < n) (z : Z.Pt) : ∃ i j : Nat, z.1 % (n : Int) = i ∧ i < n ∧ z.2 % (n : Int) = j ∧ j < n ∧ place n z = j * n + i := by
  obtain ⟨i, e1, h1, e2⟩ := emod_nat z.1 hn
  obtain ⟨j, e3, h3, e4⟩ := emod_nat z.2 hn
  exact ⟨i, j, e1, h1, e3, h3, by unfold place; rw [e2, e4]⟩
set_option maxRecDepth 100000 in
set_option maxHeartbeats 8000000 in
theorem place_ok (g : Int) (n N : Nat) (a : Option Addr) (c : Nat) (x y : Int) (w : World) (hn : 0 < n) (h24 : n ≤ 24) (hx : (-9223372036854775808 ≤ x ∧ x ≤ 9223372036854775807)) (hy : (-9223372036854775808 ≤ y ∧ y ≤ 9223372036854775807)) :
    Calls Try.prog 42 #[.agg #[.int .i64 (g), .int .i64 (n), .slice a N c], .agg #[.int .i64 (x), .int .i64 (y)]] w fun e w' => e = .returned (.int .i64 (place n (x, y))) ∧ Below w.heap.size w w' := by
  obtain ⟨i, j, e1, i1, e3, j1, hp⟩ := torus_pt hn (x, y)
  obtain ⟨M, hM⟩ : ∃ M, j * n = M := ⟨_, rfl⟩
  obtain ⟨p, hpp⟩ : ∃ p, M + i = p := ⟨_, rfl⟩
  have hM4 : M ≤ 576 := by rw [← hM]; exact Nat.mul_le_mul (show j ≤ 24 by omega) h24
  have hMi : (j : Int) * (n : Int) = (M : Int) := by rw [← hM]; push_cast; rfl
  have hMp : (M : Int) + (i : Int) = (p : Int) := by rw [← hpp]; push_cast; rfl
  rw [hM, hpp] at hp
  rw [hp]
  have vM : IntKind.i64.wrap (M : Int) = (M : Int) := IntWalk.i64_in _ (by omega)
  have vp : IntKind.i64.wrap (p : Int) = (p : Int) := IntWalk.i64_in _ (by omega)
  have rx := rest_eq (a := x) hn
  have ry := rest_eq (a := y) hn
  simp only at e1 e3
  rw [e1] at rx
  rw [e3] at ry
  have hx1 := Int.tmod_lt_of_pos x (show (0 : Int) < n by omega)
  have hx2 := Int.lt_tmod_of_pos x (show (0 : Int) < n by omega)
  have hy1 := Int.tmod_lt_of_pos y (show (0 : Int) < n by omega)
  have hy2 := Int.lt_tmod_of_pos y (show (0 : Int) < n by omega)
  have w0 : ((n : Int) == 0) = false := by simp; omega
  have w1 : (n : Int) ≠ 0 := by omega
  have w2 : ¬ n = 0 := by omega
  obtain ⟨tx, htx⟩ : ∃ t, x.tmod (n : Int) = t := ⟨_, rfl⟩
  obtain ⟨ty, hty⟩ : ∃ t, y.tmod (n : Int) = t := ⟨_, rfl⟩
  rw [htx] at rx hx1 hx2
  rw [hty] at ry hy1 hy2
  have v1 : IntKind.i64.wrap tx = tx := IntWalk.i64_in _ (by omega)
  have v2 : IntKind.i64.wrap ty = ty := IntWalk.i64_in _ (by omega)
  clear e1 e3 hM hpp hp hn
  by_cases nx : tx < 0
  · rw [if_pos nx] at rx
    have d1 : decide (tx < 0) = true := by simpa using nx
    have a1 : tx + (n : Int) = (i : Int) := rx.symm
    have v3 : IntKind.i64.wrap (i : Int) = (i : Int) := IntWalk.i64_in _ (by omega)
    by_cases ny : ty < 0
    · rw [if_pos ny] at ry
      have d2 : decide (ty < 0) = true := by simpa using ny
      have a2 : ty + (n : Int) = (j : Int) := ry.symm
      have v4 : IntKind.i64.wrap (j : Int) = (j : Int) := IntWalk.i64_in _ (by omega)
      clear rx ry nx ny
      go_enter Try.func42, Try.ntmps42
      go_wp2_with fail
      (refine wp_region_ext (by kernel_rfl) (by kernel_rfl) ?_; (repeat (first | ((with_reducible refine ext_step (fun K hK => ?_)); go_simp; first | (refine hK _ ?_; clear hK K) | (apply Exists.intro; refine ⟨fun _ _ => ?_, hK _ ?_⟩; fail; clear hK K)))); refine wpQuiet_nil ?_; intro E d)
      go_wp2
      go_ret
      exact ⟨rfl, (by repeat (first | exact Below.refl _ _ | refine Below.drew ?_ | refine below_drewN ?_ _ | refine Below.alloc ?_ (by first | exact Nat.le_refl _ | (simp; done) | (simp; omega) | omega) _ | refine Below.setCell ?_ (by first | exact Nat.le_refl _ | (simp; done) | (simp; omega) | omega) _ | refine bExtW ?_ (by first | exact Nat.le_refl _ | (simp; done) | (simp; omega) | omega) | refine Below.trans ?_ (Below.mono (by assumption) (by first | exact Nat.le_refl _ | (simp; done) | (simp; omega) | omega))))⟩
    · rw [if_neg ny] at ry
      have d2 : decide (ty < 0) = false := by simpa using ny
      subst ry
      clear rx nx ny
      go_enter Try.func42, Try.ntmps42
      go_wp2_with fail
      (refine wp_region_ext (by kernel_rfl) (by kernel_rfl) ?_; (repeat (first | ((with_reducible refine ext_step (fun K hK => ?_)); go_simp; first | (refine hK _ ?_; clear hK K) | (apply Exists.intro; refine ⟨fun _ _ => ?_, hK _ ?_⟩; fail; clear hK K)))); refine wpQuiet_nil ?_; intro E d)
      go_wp2
      go_ret
      exact ⟨rfl, (by repeat (first | exact Below.refl _ _ | refine Below.drew ?_ | refine below_drewN ?_ _ | refine Below.alloc ?_ (by first | exact Nat.le_refl _ | (simp; done) | (simp; omega) | omega) _ | refine Below.setCell ?_ (by first | exact Nat.le_refl _ | (simp; done) | (simp; omega) | omega) _ | refine bExtW ?_ (by first | exact Nat.le_refl _ | (simp; done) | (simp; omega) | omega) | refine Below.trans ?_ (Below.mono (by assumption) (by first | exact Nat.le_refl _ | (simp; done) | (simp; omega) | omega))))⟩
  · rw [if_neg nx] at rx
    have d1 : decide (tx < 0) = false := by simpa using nx
    subst rx
    by_cases ny : ty < 0
    · rw [if_pos ny] at ry
      have d2 : decide (ty < 0) = true := by simpa using ny
      have a2 : ty + (n : Int) = (j : Int) := ry.symm
      have v4 : IntKind.i64.wrap (j : Int) = (j : Int) := IntWalk.i64_in _ (by omega)
      clear ry nx ny
      go_enter Try.func42, Try.ntmps42
      go_wp2_with fail
      (refine wp_region_ext (by kernel_rfl) (by kernel_rfl) ?_; (repeat (first | ((with_reducible refine ext_step (fun K hK => ?_)); go_simp; first | (refine hK _ ?_; clear hK K) | (apply Exists.intro; refine ⟨fun _ _ => ?_, hK _ ?_⟩; fail; clear hK K)))); refine wpQuiet_nil ?_; intro E d)
      go_wp2
      go_ret
      exact ⟨rfl, (by repeat (first | exact Below.refl _ _ | refine Below.drew ?_ | refine below_drewN ?_ _ | refine Below.alloc ?_ (by first | exact Nat.le_refl _ | (simp; done) | (simp; omega) | omega) _ | refine Below.setCell ?_ (by first | exact Nat.le_refl _ | (simp; done) | (simp; omega) | omega) _ | refine bExtW ?_ (by first | exact Nat.le_refl _ | (simp; done) | (simp; omega) | omega) | refine Below.trans ?_ (Below.mono (by assumption) (by first | exact Nat.le_refl _ | (simp; done) | (simp; omega) | omega))))⟩
    · rw [if_neg ny] at ry
      have d2 : decide (ty < 0) = false := by simpa using ny
      subst ry
      clear nx ny
      go_enter Try.func42, Try.ntmps42
      go_wp2_with fail
      (refine wp_region_ext (by kernel_rfl) (by kernel_rfl) ?_; (repeat (first | ((with_reducible refine ext_step (fun K hK => ?_)); go_simp; first | (refine hK _ ?_; clear hK K) | (apply Exists.intro; refine ⟨fun _ _ => ?_, hK _ ?_⟩; fail; clear hK K)))); refine wpQuiet_nil ?_; intro E d)
      go_wp2
      go_ret
      exact ⟨rfl, (by repeat (first | exact Below.refl _ _ | refine Below.drew ?_ | refine below_drewN ?_ _ | refine Below.alloc ?_ (by first | exact Nat.le_refl _ | (simp; done) | (simp; omega) | omega) _ | refine Below.setCell ?_ (by first | exact Nat.le_refl _ | (simp; done) | (simp; omega) | omega) _ | refine bExtW ?_ (by first | exact Nat.le_refl _ | (simp; done) | (simp; omega) | omega) | refine Below.trans ?_ (Below.mono (by assumption) (by first | exact Nat.le_refl _ | (simp; done) | (simp; omega) | omega))))⟩
def intsN (l : List Nat) : List Int := l.map fun (k : Nat) => (k : Int)
theorem intsN_len (l : List Nat) : (intsN l).length = l.length := by simp [intsN]
theorem intsN_get (l : List Nat) (k : Nat) : (intsN l).getD k 0 = (l.getD k 0 : Nat) := by
  unfold intsN
  rw [List.getD_eq_getElem?_getD, List.getElem?_map, List.getD_eq_getElem?_getD]
  cases l[k]? <;> rfl
/-- What keeps tells. -/
def keepsL (xs : List Int) (tos : List Nat) (n : Nat) (o : Z.Pt) : Bool := (List.range (n * n)).all fun k => decide (xs.getD k 0 = xs.getD (place n (Z.add (pnt n (tos.getD k 0)) o)) 0)
theorem keepsL_true {xs : List Int} {tos : List Nat} {n : Nat} {o : Z.Pt} (h : ∀ k, k < n * n → xs.getD k 0 = xs.getD (place n (Z.add (pnt n (tos.getD k 0)) o)) 0) : keepsL xs tos n o = true := by
  unfold keepsL; rw [List.all_eq_true]; exact fun k hk => decide_eq_true (h k (List.mem_range.1 hk))
theorem keepsL_false {xs : List Int} {tos : List Nat} {n k : Nat} {o : Z.Pt} (hk : k < n * n) (h : ¬ xs.getD k 0 = xs.getD (place n (Z.add (pnt n (tos.getD k 0)) o)) 0) : keepsL xs tos n o = false := by
  unfold keepsL; rw [List.all_eq_false]; exact ⟨k, List.mem_range.2 hk, by simpa using h⟩
theorem keepsL_eq {W H n : Nat} {cs : List Int} {g : Int} {t : Nat} {f : Bool} {o : Z.Pt} (hn : 0 < n) (hW : W ∣ n) (hH : H ∣ n) : keepsL (Z.laidL W H cs n) (Z.imageL g n t f) n o = Z.keepB W H cs g n ⟨t, f, o⟩ := by
  unfold keepsL Z.keepB
  rw [Bool.eq_iff_iff, List.all_eq_true, List.all_eq_true]
  refine forall_congr' fun k => forall_congr' fun hk => ?_
  rw [Z.keeps_at hn hW hH (List.mem_range.1 hk), Z.laidL_get (List.mem_range.1 hk)]
set_option maxRecDepth 100000 in
set_option maxHeartbeats 8000000 in
theorem keeps_ok (g : Int) (n N : Nat) (a ta : Option Addr) (c tc : Nat) (xs : List Int) (tos : List Nat) (ox oy : Int) (w : World) (hn : 0 < n) (h24 : n ≤ 24) (hN : n * n = N) (hI : IsInts w a N xs) (hT : IsInts w ta N (intsN tos)) (hlt : ∀ k, k < N → tos.getD k 0 < N) (hx : -1000000000000 ≤ ox ∧ ox ≤ 1000000000000) (hy : -1000000000000 ≤ oy ∧ oy ≤ 1000000000000) :
    Calls Try.prog 28 #[.agg #[.int .i64 (g), .int .i64 (n), .slice a N c], .slice ta N tc, .agg #[.int .i64 (ox), .int .i64 (oy)]] w fun e w' => e = .returned (.bool (keepsL xs tos n (ox, oy))) ∧ Below w.heap.size w w' := by
  have hN6 : N ≤ 576 := by rw [← hN]; exact Nat.mul_le_mul h24 h24
  have HP := Lib.hid (fun x y w h1 h2 => place_ok g n N a c x y w hn h24 h1 h2)
  have HF : Hid (∀ k, k < N → ¬ xs.getD k 0 = xs.getD (place n (Z.add (pnt n (tos.getD k 0)) (ox, oy))) 0 → keepsL xs tos n (ox, oy) = false) := Lib.hid fun k hk h => keepsL_false (by rw [hN]; exact hk) h
  have HTr : Hid ((∀ k, k < N → xs.getD k 0 = xs.getD (place n (Z.add (pnt n (tos.getD k 0)) (ox, oy))) 0) → keepsL xs tos n (ox, oy) = true) := Lib.hid fun h => keepsL_true (by rw [hN]; exact h)
  have HPL : Hid (∀ z, place n z < N) := Lib.hid fun z => by rw [← hN]; exact Z.place_lt hn z
  have HNN := Lib.hid hN
  have HI := Lib.hid hI; have HT := Lib.hid hT; have HL := Lib.hid hlt
  generalize keepsL xs tos n (ox, oy) = kk at *
  clear hI hT hlt hN
  go_enter Try.func28, Try.ntmps28
  go_wp2_with fail
  go_loopw [12] (fun i wr => ∃ (k : Nat) (E : Array Obj) (d : Nat), k ≤ N ∧ i = .int .i64 k ∧ Hid (∀ j, j < k → xs.getD j 0 = xs.getD (place n (Z.add (pnt n (tos.getD j 0)) (ox, oy))) 0) ∧ wr = extW ((w.alloc (.cells #[.int .i64 g, .int .i64 n, .slice a N c] 60)).alloc (.cells #[.int .i64 (ox), .int .i64 (oy)] 33)) E d) (fun i _ => N - (intOf i).toNat)
  case atStart => exact ⟨0, #[], _, by omega, rfl, Lib.hid fun j h => absurd h (by omega), extW_zero _⟩
  case round =>
    obtain ⟨k, E, d, hk, rfl, HK, rfl⟩ := hrel
    by_cases hkN : k < N
    · obtain ⟨tb, to', rfl, htb, htc⟩ := HT.out.2 (by omega)
      obtain ⟨b, o, rfl, hb, hc⟩ := HI.out.2 (by omega)
      have c0 := htc k hkN
      have c1 := hc k hkN
      rw [intsN_get] at c0
      have l0 : LtW tb w := htb
      have l1 : LtW b w := hb
      have hpN := HL.out k hkN
      obtain ⟨p, hp⟩ : ∃ p, tos.getD k 0 = p := ⟨_, rfl⟩
      have HF1 := Lib.hid (HF.out k hkN)
      rw [hp] at c0 hpN HF1
      obtain ⟨u, hu⟩ : ∃ u, p % n = u := ⟨_, rfl⟩
      obtain ⟨v, hv⟩ : ∃ v, p / n = v := ⟨_, rfl⟩
      have hu1 : u < n := by rw [← hu]; exact Nat.mod_lt _ hn
      have hv1 : v < n := by rw [← hv]; exact Nat.div_lt_of_lt_mul (by rw [HNN.out]; exact hpN)
      have hpn : Z.add (pnt n p) (ox, oy) = ((u : Int) + ox, (v : Int) + oy) := by unfold pnt Z.add; rw [hu, hv]
      have t1 : (p : Int).tmod (n : Int) = (u : Int) := by rw [← hu]; rfl
      have t2 : (p : Int).tdiv (n : Int) = (v : Int) := by rw [← hv]; rfl
      have v1 : IntKind.i64.wrap (u : Int) = (u : Int) := IntWalk.i64_in _ (by omega)
      have v2 : IntKind.i64.wrap (v : Int) = (v : Int) := IntWalk.i64_in _ (by omega)
      have v3 : IntKind.i64.wrap ((u : Int) + ox) = (u : Int) + ox := IntWalk.i64_in _ (by omega)
      have v4 : IntKind.i64.wrap ((v : Int) + oy) = (v : Int) + oy := IntWalk.i64_in _ (by omega)
      have b1 : ((n : Int) == 0) = false := by simp; omega
      have b2 : (n : Int) ≠ 0 := by omega
      have b3 : ¬ n = 0 := by omega
      rw [hpn] at HF1
      have HP1 := Lib.hid (fun w => HP.out ((u : Int) + ox) ((v : Int) + oy) w (by omega) (by omega))
      have hq := HPL.out ((u : Int) + ox, (v : Int) + oy)
      have HE : Hid (place n (Z.add (pnt n (tos.getD k 0)) (ox, oy)) = place n ((u : Int) + ox, (v : Int) + oy)) := Lib.hid (by rw [hp, hpn])
      generalize place n ((u : Int) + ox, (v : Int) + oy) = q at *
      have c2 := hc q hq
      obtain ⟨X1, hX1⟩ : ∃ X, xs.getD k 0 = X := ⟨_, rfl⟩
      obtain ⟨X2, hX2⟩ : ∃ X, xs.getD q 0 = X := ⟨_, rfl⟩
      rw [hX1] at c1 HF1
      rw [hX2] at c2 HF1
      have HX1 := Lib.hid hX1; have HX2 := Lib.hid hX2
      clear hc htc hb htb hu hv hp hpn HP HX1 HX2 hn
      by_cases hxx : X1 = X2
      · have hd : (X1 != X2) = false := by simpa using hxx
        have HR : Hid (xs.getD k 0 = xs.getD (place n (Z.add (pnt n (tos.getD k 0)) (ox, oy))) 0) := Lib.hid (by rw [HE.out, hX1, hX2]; exact hxx)
        clear hX1 hX2 hxx HE
        go_wp2_with fail
        (refine wp_region_ext (by kernel_rfl) (by kernel_rfl) ?_; (repeat (first | ((with_reducible refine ext_step (fun K hK => ?_)); go_simp; first | (refine hK _ ?_; clear hK K) | (apply Exists.intro; refine ⟨fun _ _ => ?_, hK _ ?_⟩; (go_at_call 42; exact extOf (HP1.out _)); clear hK K)))); refine wpQuiet_nil ?_; intro E d)
        go_wp2_with fail
        (refine wp_region_ext (by kernel_rfl) (by kernel_rfl) ?_; (repeat (first | ((with_reducible refine ext_step (fun K hK => ?_)); go_simp; first | (refine hK _ ?_; clear hK K) | (apply Exists.intro; refine ⟨fun _ _ => ?_, hK _ ?_⟩; fail; clear hK K)))); refine wpQuiet_nil ?_; intro E d)
        go_wp2
        go_roundw
        case rel => exact ⟨k + 1, _, _, by omega, by go_num, Lib.hid fun j hj => (by
          by_cases e : j = k
          · subst e; exact HR.out
          · exact HK.out j (by omega)), by simp only [extW_extW]; rfl⟩
        case measure => simp [intOf]; omega
      · have hd : (X1 != X2) = true := by simpa using hxx
        have HV := Lib.hid (HF1.out hxx)
        clear hX1 hX2 hxx HE HF1 HF
        go_wp2_with fail
        (refine wp_region_ext (by kernel_rfl) (by kernel_rfl) ?_; (repeat (first | ((with_reducible refine ext_step (fun K hK => ?_)); go_simp; first | (refine hK _ ?_; clear hK K) | (apply Exists.intro; refine ⟨fun _ _ => ?_, hK _ ?_⟩; (go_at_call 42; exact extOf (HP1.out _)); clear hK K)))); refine wpQuiet_nil ?_; intro E d)
        go_wp2_with fail
        (refine wp_region_ext (by kernel_rfl) (by kernel_rfl) ?_; (repeat (first | ((with_reducible refine ext_step (fun K hK => ?_)); go_simp; first | (refine hK _ ?_; clear hK K) | (apply Exists.intro; refine ⟨fun _ _ => ?_, hK _ ?_⟩; fail; clear hK K)))); refine wpQuiet_nil ?_; intro E d)
        go_wp2
        go_ret
        exact ⟨by rw [HV.out]; rfl, (by repeat (first | exact Below.refl _ _ | refine Below.drew ?_ | refine below_drewN ?_ _ | refine Below.alloc ?_ (by first | exact Nat.le_refl _ | (simp; done) | (simp; omega) | omega) _ | refine Below.setCell ?_ (by first | exact Nat.le_refl _ | (simp; done) | (simp; omega) | omega) _ | refine bExtW ?_ (by first | exact Nat.le_refl _ | (simp; done) | (simp; omega) | omega) | refine Below.trans ?_ (Below.mono (by assumption) (by first | exact Nat.le_refl _ | (simp; done) | (simp; omega) | omega))))⟩
    · have HV := Lib.hid (HTr.out (fun j hj => HK.out j (by omega)))
      go_wp2
      go_ret
      exact ⟨by rw [HV.out]; rfl, (by repeat (first | exact Below.refl _ _ | refine Below.drew ?_ | refine below_drewN ?_ _ | refine Below.alloc ?_ (by first | exact Nat.le_refl _ | (simp; done) | (simp; omega) | omega) _ | refine Below.setCell ?_ (by first | exact Nat.le_refl _ | (simp; done) | (simp; omega) | omega) _ | refine bExtW ?_ (by first | exact Nat.le_refl _ | (simp; done) | (simp; omega) | omega) | refine Below.trans ?_ (Below.mono (by assumption) (by first | exact Nat.le_refl _ | (simp; done) | (simp; omega) | omega))))⟩
end Go.Proofs.Ytooilennejakhaa
