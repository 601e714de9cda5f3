/- Lemmas and contracts of functions (what each call returns, and that it changes nothing that was there) that the proof of a law of this seat uses; each lemma states its own conditions. -/
import Derived.Test.YtnjheiiohfhckaaG4
namespace Go.Proofs.Ytnjheiiohfhckaa
open Go.RowKit
set_option linter.unusedVariables false
set_option linter.unusedSimpArgs false
open Z (IsGcd Normal nrm)
def boolOf : Value → Bool | .bool b => b | _ => false
def restW (w : World) (p q : Z.Pt) : World := ((w.alloc (.cells #[.int .i64 (p.1), .int .i64 (p.2)] 32)).alloc (.cells #[.int .i64 (q.1), .int .i64 (q.2)] 32)).alloc (.cells #[.int .i64 (0), .int .i64 (0)] 32)
def RestPost (g : Int) (a b : Z.Pt) (w : World) (r : Ending) (w' : World) : Prop :=
  ∃ p : Z.Pt, r = .returned (.agg #[.int .i64 (p.1), .int .i64 (p.2)]) ∧ Z.Dvd g b (Z.sub a p) ∧ 2 * nrm g p ≤ nrm g b ∧ Below w.heap.size w w'
def two (k : Nat) (b : Z.Pt) : Z.Pt := (2^k * b.1, 2^k * b.2)
theorem two_succ (k : Nat) (b : Z.Pt) : two (k+1) b = (2 * (two k b).1, 2 * (two k b).2) := by
  simp only [two, Int.pow_succ]; apply Z.ext2 <;> simp only <;> grind
theorem two_dvd (g : Int) (k : Nat) (b : Z.Pt) : Z.Dvd g b (two k b) := ⟨(2^k, 0), by apply Z.ext2 <;> simp [two, Z.mul, tmX, tmY]⟩
theorem nrm_dbl {g : Int} (hg : Z.G g) (x y : Int) : nrm g (2*x, 2*y) = 4 * nrm g (x,y) := by
  rcases hg with rfl | rfl
  · rw [Z.nrm4, Z.nrm4]; simp only; grind
  · rw [Z.nrm6, Z.nrm6]; simp only; grind
theorem two_pos {g : Int} (hg : Z.G g) (k : Nat) {b : Z.Pt} (hb : b ≠ (0,0)) : 1 ≤ nrm g (two k b) := by
  induction k with
  | zero => have e : two 0 b = b := by simp [two]
            rw [e]; exact Z.nrm_pos hg hb
  | succ k ih => rw [two_succ, nrm_dbl hg]; have : nrm g ((two k b).1, (two k b).2) = nrm g (two k b) := rfl; omega
theorem two_zero (g bx bY : Int) {N : Int} (h : nrm g (bx,bY) ≤ N) : nrm g (two 0 (bx,bY)) ≤ N := by
  have e : two 0 (bx,bY) = (bx,bY) := by simp [two]
  rwa [e]
theorem two_ge {g : Int} (hg : Z.G g) (k : Nat) (b : Z.Pt) : nrm g b ≤ nrm g (two k b) := by
  induction k with
  | zero => have e : two 0 b = b := by simp [two]
            rw [e]; omega
  | succ k ih => rw [two_succ, nrm_dbl hg]; have : nrm g ((two k b).1, (two k b).2) = nrm g (two k b) := rfl; have := Z.nrm_nonneg hg (two k b); omega
theorem dvd_sub_add {g : Int} {a b p t : Z.Pt} (h : Z.Dvd g b (Z.sub a p)) (ht : Z.Dvd g b t) : Z.Dvd g b (Z.sub a (p.1 + t.1, p.2 + t.2)) := by
  have h2 := Z.dvd_add h (Z.dvd_mul ht (-1,0))
  have e : Z.add (Z.sub a p) (Z.mul g (-1,0) t) = Z.sub a (p.1 + t.1, p.2 + t.2) := by
    apply Z.ext2 <;> simp [Z.add, Z.sub, Z.mul, tmX, tmY] <;> omega
  rwa [e] at h2
theorem two_rel (k : Nat) (bx bY : Int) : (bx = 0 → (two k (bx,bY)).1 = 0) ∧ (bx ≠ 0 → 2 * (two k (bx,bY)).1 ≠ bx) ∧ (bY = 0 → (two k (bx,bY)).2 = 0) ∧ (bY ≠ 0 → 2 * (two k (bx,bY)).2 ≠ bY) := by
  have hp : (1:Int) ≤ 2^k := by
    induction k with
    | zero => simp
    | succ k ih => rw [Int.pow_succ]; omega
  have key : ∀ z : Int, z ≠ 0 → 2 * (2^k * z) ≠ z := by
    intro z hz h
    have h1 : (2 * 2^k - 1) * z = 0 := by rw [Int.sub_mul, Int.mul_assoc]; omega
    rcases Int.mul_eq_zero.1 h1 with h | h
    · omega
    · exact hz h
  simp only [two]
  exact ⟨fun h => by rw [h]; simp, key _, fun h => by rw [h]; simp, key _⟩
set_option maxRecDepth 100000 in
set_option maxHeartbeats 8000000 in
theorem rest_any (g ax ay bx bY : Int) (w : World) (hg : g = 4 ∨ g = 6) (hb : (bx, bY) ≠ ((0,0) : Z.Pt)) (na : nrm g (ax, ay) ≤ 3 * (1048576 * 1048576)) (nb : nrm g (bx, bY) ≤ 3 * (1048576 * 1048576)) :
    Calls Try.prog 44 #[.int .i64 (g), .agg #[.int .i64 (ax), .int .i64 (ay)], .agg #[.int .i64 (bx), .int .i64 (bY)]] w (RestPost g (ax,ay) (bx,bY) w) := by
  have HB := Lib.hid hb
  have bb := ptB_of hg nb
  simp only [ptB] at bb
  have hg6 : 0 ≤ g ∧ g ≤ 6 := by omega
  clear hb
  go_enter Try.func44, Try.ntmps44
  go_wp2_with fail
  go_loopw [7] (fun ag wr => ∃ (p : Z.Pt) (E : Array Obj) (d : Nat) (f : Bool), ag = .bool f ∧ wr = extW (restW w p (bx,bY)) E d ∧ nrm g p ≤ 3 * (1048576 * 1048576) ∧ Z.Dvd g (bx,bY) (Z.sub (ax,ay) p) ∧ (f = false → 2 * nrm g p ≤ nrm g (bx,bY)))
    (fun ag wr => 2 * (nrm g (cellInt wr w.heap.size 0, cellInt wr w.heap.size 1)).toNat + (if boolOf ag then 1 else 0))
  case atStart => exact ⟨(ax,ay), #[], _, true, rfl, extW_zero _, na, by simp [Z.sub]; exact Z.dvd_zero _ _, by simp⟩
  case round =>
    obtain ⟨⟨px, py⟩, E1, d1, f, rfl, rfl, np, hdv, hfin⟩ := hrel
    have HD := Lib.hid hdv
    have HFin := Lib.hid hfin
    have bp := ptB_of hg np
    simp only [ptB] at bp
    clear hdv hfin
    unfold restW
    cases f with
    | false =>
      go_wp2
      refine bodyPost_ret (v := .agg #[.int .i64 (px), .int .i64 (py)]) (by simp [results, Try.results44, go_sem]) rfl ⟨(px,py), rfl, HD.out, (by have := HFin.out; simpa using this), (by repeat (first | exact Below.refl _ _ | refine Below.drew ?_ | refine below_drewN ?_ _ | refine Below.alloc ?_ (by first | exact Nat.le_refl _ | (simp; done) | (simp; omega) | omega) _ | refine Below.setCell ?_ (by first | exact Nat.le_refl _ | (simp; done) | (simp; omega) | omega) _ | refine bExtW ?_ (by first | exact Nat.le_refl _ | (simp; done) | (simp; omega) | omega) | refine Below.trans ?_ (Below.mono (by assumption) (by first | exact Nat.le_refl _ | (simp; done) | (simp; omega) | omega))))⟩
    | true =>
      go_wp2_with fail
      go_loopw [] (fun wr => ∃ (k : Nat) (E' : Array Obj) (d' : Nat), wr = extW ((extW (restW w (px,py) (bx,bY)) E1 d1).alloc (.cells #[.int .i64 ((two k (bx,bY)).1), .int .i64 ((two k (bx,bY)).2)] 32)) E' d' ∧ nrm g (two k (bx,bY)) ≤ 3 * (1048576 * 1048576))
        (fun wr => (nrm g (px,py) - nrm g (cellInt wr (w.heap.size + 1 + 1 + 1 + E1.size) 0, cellInt wr (w.heap.size + 1 + 1 + 1 + E1.size) 1)).toNat)
      case atStart => exact ⟨0, #[], _, by simp only [two, Int.pow_zero, Int.one_mul]; exact extW_zero _, two_zero g bx bY nb⟩
      case round =>
        obtain ⟨k, E', d', rfl, ns⟩ := hrel
        have bs := ptB_of hg ns
        have hp := two_pos hg k HB.out
        have HS2 := Lib.hid (two_succ k (bx,bY))
        generalize hs : two k (bx,bY) = s at *
        obtain ⟨sx, sy⟩ := s
        have HS := Lib.hid hs
        have HN := Lib.hid (nrm_dbl hg sx sy)
        simp only [ptB] at bs
        clear hs
        unfold restW
        by_cases hlt : nrm g (2 * sx, 2 * sy) < nrm g (px, py)
        · go_wp2_with fail
          (refine wp_region_ext (by kernel_rfl) (by kernel_rfl) ?_; (repeat (first | (refine ext_step (fun K hK => ?_); go_simp; first | (refine hK _ ?_; clear hK K) | (apply Exists.intro; refine ⟨fun _ _ => ?_, hK _ ?_⟩; (first | (go_at_call 40; exact extOf (rscaled_any 2 sx sy _ (by omega) (by omega))) | (go_at_call 38; exact extOf (rSquare_any g _ _ _ hg (by omega) (by omega)))); clear hK K)))); refine wpQuiet_nil ?_; intro E d)
          (go_wp2_with fail; refine (rscaled_any 2 sx sy _ (by omega) (by omega)).mono ?_; rintro r w1 ⟨rfl, hb⟩; obtain ⟨E, d, rfl⟩ := bExt hb; clear hb)
          go_wp2
          go_roundw
          case rel => exact ⟨k + 1, _, _, by simp only [extW_extW, HS2.out]; rfl, by rw [HS2.out]; omega⟩
          case measure =>
            rw [cellInt_of (n := 2 * sx) (by simp [go_sem]), cellInt_of (n := 2 * sy) (by simp [go_sem]), cellInt_of (n := sx) (by simp [go_sem]), cellInt_of (n := sy) (by simp [go_sem])]
            have := HN.out
            omega
        · go_wp2_with fail
          (refine wp_region_ext (by kernel_rfl) (by kernel_rfl) ?_; (repeat (first | (refine ext_step (fun K hK => ?_); go_simp; first | (refine hK _ ?_; clear hK K) | (apply Exists.intro; refine ⟨fun _ _ => ?_, hK _ ?_⟩; (first | (go_at_call 40; exact extOf (rscaled_any 2 sx sy _ (by omega) (by omega))) | (go_at_call 38; exact extOf (rSquare_any g _ _ _ hg (by omega) (by omega)))); clear hK K)))); refine wpQuiet_nil ?_; intro E d)
          go_wp2_with fail
          have HL3 := Lib.hid hlt
          clear hlt
          go_loopw [7] (fun ag wr => ∃ (k : Nat) (p : Z.Pt) (f : Bool) (E' : Array Obj) (d' : Nat), ag = .bool f ∧ wr = extW ((extW (restW w p (bx,bY)) E1 d1).alloc (.cells #[.int .i64 ((two k (bx,bY)).1), .int .i64 ((two k (bx,bY)).2)] 32)) E' d' ∧ nrm g (two k (bx,bY)) ≤ 3 * (1048576 * 1048576) ∧
              ((f = false ∧ p = (px,py)) ∨ (f = true ∧ nrm g p < nrm g (px,py) ∧ Z.Dvd g (bx,bY) (Z.sub (ax,ay) p))))
            (fun _ wr => (nrm g (cellInt wr (w.heap.size + 1 + 1 + 1 + E1.size) 0, cellInt wr (w.heap.size + 1 + 1 + 1 + E1.size) 1)).toNat)
          case atStart => exact ⟨k, (px,py), false, _, _, rfl, by rw [HS.out, extW_extW]; rfl, by rw [HS.out]; exact ns, .inl ⟨rfl, rfl⟩⟩
          case round =>
            clear HS HN HS2 HL3 bs hp ns
            obtain ⟨k, p, f, E3, d3, rfl, rfl, ns, hcase⟩ := hrel
            have bs := ptB_of hg ns
            have hp := two_pos hg k HB.out
            have hge := two_ge hg k (bx,bY)
            have HDV := Lib.hid (two_dvd g k (bx,bY))
            generalize hs : two k (bx,bY) = s at *
            obtain ⟨sx, sy⟩ := s
            have HS := Lib.hid hs
            simp only [ptB] at bs
            clear hs
            unfold restW
            rcases hcase with ⟨rfl, rfl⟩ | ⟨rfl, hlt, hdv⟩
            · go_wp2_with fail
              (refine wp_region_ext (by kernel_rfl) (by kernel_rfl) ?_; (repeat (first | (refine ext_step (fun K hK => ?_); go_simp; first | (refine hK _ ?_; clear hK K) | (apply Exists.intro; refine ⟨fun _ _ => ?_, hK _ ?_⟩; (first | (go_at_call 38; exact extOf (rSquare_any g _ _ _ hg (by omega) (by omega)))); clear hK K)))); refine wpQuiet_nil ?_; intro E d)
              go_wp2_with fail
              go_loopw [7, 10] (fun ag i wr => ∃ (q : Nat) (E' : Array Obj) (d' : Nat), ag = .bool false ∧ i = .int .i64 q ∧ (q : Int) ≤ g ∧ wr = extW ((extW (extW ((extW (restW w (px,py) (bx,bY)) E1 d1).alloc (.cells #[.int .i64 (sx), .int .i64 (sy)] 32)) E3 d3) E d).alloc (.cells #[.int .i64 ((Z.tn g q (sx,sy)).1), .int .i64 ((Z.tn g q (sx,sy)).2)] 32)) E' d' ∧
                  ∀ i, i < q → nrm g (px,py) ≤ nrm g (Z.add (px,py) (Z.tn g i (sx,sy)))) (fun _ i _ => g.toNat - (intOf i).toNat)
              case atStart => exact ⟨0, #[], _, rfl, rfl, hg6.1, extW_zero _, by simp⟩
              case round =>
                obtain ⟨q, E4, d4, rfl, rfl, hqg, rfl, hall⟩ := hrel
                have HA := Lib.hid hall
                clear hall
                have nt : nrm g (Z.tn g q (sx,sy)) ≤ 3 * (1048576 * 1048576) := by rw [Z.nrm_tn hg]; exact ns
                have bt := ptB_of hg nt
                have HT : Hid (Z.tn g (q+1) (sx,sy) = Z.turn g (Z.tn g q (sx,sy))) := Lib.hid rfl
                have HDT := Lib.hid (Z.dvd_trans HDV.out (Z.dvd_tn hg q (sx,sy)))
                simp only [ptB] at bt
                unfold restW
                by_cases hlt : (q : Int) < g
                · generalize ht : Z.tn g q (sx,sy) = t at *
                  obtain ⟨tx, ty⟩ := t
                  have HTQ := Lib.hid ht
                  clear ht
                  simp only at bt
                  (go_wp2_with fail; refine (rplus_any px py tx ty _ (by omega) (by omega)).mono ?_; rintro r w1 ⟨rfl, hb⟩; obtain ⟨E, d, rfl⟩ := bExt hb; clear hb)
                  by_cases hc : nrm g (px+tx, py+ty) < nrm g (px,py)
                  · have HDC : Hid (Z.Dvd g (bx,bY) (Z.sub (ax,ay) (px+tx, py+ty))) := Lib.hid (dvd_sub_add HD.out HDT.out)
                    have hcn := Z.nrm_nonneg hg (px+tx, py+ty)
                    have ncn : nrm g (px+tx, py+ty) ≤ 3 * (1048576 * 1048576) := by omega
                    go_wp2_with fail
                    (refine wp_region_ext (by kernel_rfl) (by kernel_rfl) ?_; (repeat (first | (refine ext_step (fun K hK => ?_); go_simp; first | (refine hK _ ?_; clear hK K) | (apply Exists.intro; refine ⟨fun _ _ => ?_, hK _ ?_⟩; (first | (go_at_call 38; exact extOf (rSquare_any g _ _ _ hg (by omega) (by omega)))); clear hK K)))); refine wpQuiet_nil ?_; intro E d)
                    cases k with
                    | zero =>
                      have e := HS.out
                      simp only [two, Int.pow_zero, Int.one_mul, Prod.mk.injEq] at e
                      obtain ⟨rfl, rfl⟩ := e
                      go_wp2
                      go_roundw
                      case rel => exact ⟨(px+tx, py+ty), _, _, true, rfl, by simp only [alloc_extW, extW_extW]; rfl, ncn, HDC.out, by simp⟩
                      case measure =>
                        rw [cellInt_of (n := px+tx) (by simp [go_sem]), cellInt_of (n := py+ty) (by simp [go_sem]), cellInt_of (n := px) (by simp [go_sem]), cellInt_of (n := py) (by simp [go_sem])]
                        simp only [boolOf, if_true]
                        omega
                    | succ k =>
                      have e := HS.out
                      rw [two_succ] at e
                      have hpk := two_pos hg k HB.out
                      have hrk := two_rel k bx bY
                      generalize hu : two k (bx,bY) = u at *
                      obtain ⟨ux, uy⟩ := u
                      have HU := Lib.hid hu
                      clear hu
                      simp only [Prod.mk.injEq] at e
                      obtain ⟨rfl, rfl⟩ := e
                      have h2x : (2 * ux).tdiv 2 = ux := by rw [Int.mul_comm]; exact Int.mul_tdiv_cancel _ (by omega)
                      have h2y : (2 * uy).tdiv 2 = uy := by rw [Int.mul_comm]; exact Int.mul_tdiv_cancel _ (by omega)
                      have HN := Lib.hid (nrm_dbl hg ux uy)
                      have HNU : Hid (nrm g (ux,uy) ≤ 3 * (1048576 * 1048576)) := by
                        have h1 := nrm_dbl hg ux uy
                        have h2 := Z.nrm_nonneg hg (ux,uy)
                        show nrm g (ux,uy) ≤ _
                        omega
                      simp only at hrk
                      by_cases hbx : bx = 0
                      · subst hbx
                        obtain rfl := hrk.1 rfl
                        have hy : ¬ 2 * uy = bY := by intro h; exact hrk.2.2.2 (by intro h0; exact HB.out (by rw [h0])) h
                        clear hrk h2x
                        go_wp2
                        go_roundw
                        case rel => exact ⟨k, (px+tx,py+ty), true, _, _, rfl, by rw [HU.out]; simp only [alloc_extW, extW_extW, Array.push_eq_append, Array.append_assoc]; rfl, by rw [HU.out]; exact HNU.out, .inr ⟨rfl, hc, HDC.out⟩⟩
                        case measure =>
                          rw [cellInt_of (n := 0) (by simp [go_sem]), cellInt_of (n := uy) (by simp [go_sem, h2y]), cellInt_of (n := 2 * 0) (by simp [go_sem]), cellInt_of (n := 2 * uy) (by simp [go_sem])]
                          have := HN.out
                          omega
                      · have hx : ¬ 2 * ux = bx := fun h => hrk.2.1 hbx h
                        clear hrk
                        go_wp2
                        go_roundw
                        case rel => exact ⟨k, (px+tx,py+ty), true, _, _, rfl, by rw [HU.out]; simp only [alloc_extW, extW_extW, Array.push_eq_append, Array.append_assoc]; rfl, by rw [HU.out]; exact HNU.out, .inr ⟨rfl, hc, HDC.out⟩⟩
                        case measure =>
                          rw [cellInt_of (n := ux) (by simp [go_sem, h2x]), cellInt_of (n := uy) (by simp [go_sem, h2y]), cellInt_of (n := 2 * ux) (by simp [go_sem]), cellInt_of (n := 2 * uy) (by simp [go_sem])]
                          have := HN.out
                          omega
                  · have ht2 : Z.turn g (tx,ty) = Z.turn g (tx,ty) := rfl
                    go_wp2_with fail
                    (refine wp_region_ext (by kernel_rfl) (by kernel_rfl) ?_; (repeat (first | (refine ext_step (fun K hK => ?_); go_simp; first | (refine hK _ ?_; clear hK K) | (apply Exists.intro; refine ⟨fun _ _ => ?_, hK _ ?_⟩; (first | (go_at_call 38; exact extOf (rSquare_any g _ _ _ hg (by omega) (by omega)))); clear hK K)))); refine wpQuiet_nil ?_; intro E d)
                    (go_wp2_with fail; refine (rTurned_any g tx ty _ (by omega) (by omega)).mono ?_; rintro r w1 ⟨rfl, hb⟩; obtain ⟨E, d, rfl⟩ := bExt hb; clear hb)
                    go_wp2
                    go_roundw
                    case rel =>
                      refine ⟨q+1, _, _, rfl, by simp, by omega, by rw [HT.out]; simp only [alloc_extW, extW_extW, Array.push_eq_append, Array.append_assoc, Z.turn]; rfl, ?_⟩
                      intro i hi
                      by_cases hiq : i < q
                      · exact HA.out i hiq
                      · obtain rfl : i = q := by omega
                        rw [HTQ.out]; simp only [Z.add]; omega
                    case measure => simp only [intOf]; omega
                · have hq : (q : Int) = g := by omega
                  have HRL := Lib.hid (Z.rest_lt (a := (px,py)) hg (by intro h; rw [h] at hp; rcases hg with rfl | rfl <;> simp [Z.nrm4, Z.nrm6] at hp) (fun i hi => HA.out i (by omega)) : 2 * nrm g (px,py) ≤ nrm g (sx,sy))
                  cases k with
                  | zero =>
                    have e := HS.out
                    simp only [two, Int.pow_zero, Int.one_mul, Prod.mk.injEq] at e
                    obtain ⟨rfl, rfl⟩ := e
                    go_wp2
                    go_roundw
                    case rel => exact ⟨(px, py), _, _, false, rfl, by simp only [alloc_extW, extW_extW]; rfl, np, HD.out, fun _ => HRL.out⟩
                    case measure =>
                      rw [cellInt_of (n := px) (by simp [go_sem]), cellInt_of (n := py) (by simp [go_sem])]
                      rw [cellInt_of (n := px) (by simp [go_sem]), cellInt_of (n := py) (by simp [go_sem])]
                      simp [boolOf]
                  | succ k =>
                    have e := HS.out
                    rw [two_succ] at e
                    have hpk := two_pos hg k HB.out
                    have hrk := two_rel k bx bY
                    generalize hu : two k (bx,bY) = u at *
                    obtain ⟨ux, uy⟩ := u
                    have HU := Lib.hid hu
                    clear hu
                    simp only [Prod.mk.injEq] at e
                    obtain ⟨rfl, rfl⟩ := e
                    have h2x : (2 * ux).tdiv 2 = ux := by rw [Int.mul_comm]; exact Int.mul_tdiv_cancel _ (by omega)
                    have h2y : (2 * uy).tdiv 2 = uy := by rw [Int.mul_comm]; exact Int.mul_tdiv_cancel _ (by omega)
                    have HN := Lib.hid (nrm_dbl hg ux uy)
                    have HNU : Hid (nrm g (ux,uy) ≤ 3 * (1048576 * 1048576)) := by
                      have h1 := nrm_dbl hg ux uy
                      have h2 := Z.nrm_nonneg hg (ux,uy)
                      show nrm g (ux,uy) ≤ _
                      omega
                    simp only at hrk
                    by_cases hbx : bx = 0
                    · subst hbx
                      obtain rfl := hrk.1 rfl
                      have hy : ¬ 2 * uy = bY := by intro h; exact hrk.2.2.2 (by intro h0; exact HB.out (by rw [h0])) h
                      clear hrk h2x
                      go_wp2
                      go_roundw
                      case rel => exact ⟨k, (px,py), false, _, _, rfl, by rw [HU.out]; simp only [alloc_extW, extW_extW, Array.push_eq_append, Array.append_assoc]; rfl, by rw [HU.out]; exact HNU.out, .inl ⟨rfl, rfl⟩⟩
                      case measure =>
                        rw [cellInt_of (n := 0) (by simp [go_sem]), cellInt_of (n := uy) (by simp [go_sem, h2y]), cellInt_of (n := 2 * 0) (by simp [go_sem]), cellInt_of (n := 2 * uy) (by simp [go_sem])]
                        have := HN.out
                        omega
                    · have hx : ¬ 2 * ux = bx := fun h => hrk.2.1 hbx h
                      clear hrk
                      go_wp2
                      go_roundw
                      case rel => exact ⟨k, (px,py), false, _, _, rfl, by rw [HU.out]; simp only [alloc_extW, extW_extW, Array.push_eq_append, Array.append_assoc]; rfl, by rw [HU.out]; exact HNU.out, .inl ⟨rfl, rfl⟩⟩
                      case measure =>
                        rw [cellInt_of (n := ux) (by simp [go_sem, h2x]), cellInt_of (n := uy) (by simp [go_sem, h2y]), cellInt_of (n := 2 * ux) (by simp [go_sem]), cellInt_of (n := 2 * uy) (by simp [go_sem])]
                        have := HN.out
                        omega
            · obtain ⟨qx, qy⟩ := p
              have HDv := Lib.hid hdv
              have hpp := Z.nrm_nonneg hg (qx,qy)
              have np2 : nrm g (qx,qy) ≤ 3 * (1048576 * 1048576) := by omega
              clear hdv
              go_wp2_with fail
              (refine wp_region_ext (by kernel_rfl) (by kernel_rfl) ?_; (repeat (first | (refine ext_step (fun K hK => ?_); go_simp; first | (refine hK _ ?_; clear hK K) | (apply Exists.intro; refine ⟨fun _ _ => ?_, hK _ ?_⟩; (first | (go_at_call 38; exact extOf (rSquare_any g _ _ _ hg (by omega) (by omega)))); clear hK K)))); refine wpQuiet_nil ?_; intro E d)
              go_wp2
              go_roundw
              case rel => exact ⟨(qx,qy), _, _, true, rfl, by simp only [alloc_extW, extW_extW]; rfl, np2, HDv.out, by simp⟩
              case measure =>
                rw [cellInt_of (n := qx) (by simp [go_sem]), cellInt_of (n := qy) (by simp [go_sem]), cellInt_of (n := px) (by simp [go_sem]), cellInt_of (n := py) (by simp [go_sem])]
                simp only [boolOf, if_true]
                omega
end Go.Proofs.Ytnjheiiohfhckaa
