/- Lemmas and contracts of functions (what each call returns, and that it changes nothing that was there) that the proof of a law of this seat uses; each lemma states its own conditions. -/
import Derived.Test.YtdaacjaibfcacaaB22
import Derived.Test.YtdaacjaibfcacaaB06
import Derived.Deep.DeepCutAuto
import Derived.Test.YtdaacjaibfcacaaB18
namespace Go.Proofs.Ytdaacjaibfcacaa
open Go.RowKit
set_option linter.unusedVariables false
set_option linter.unusedSimpArgs false
open Z (IsGcd Normal nrm Mv To lin mir okT idm both bothT inv pw)
theorem mvV_val (m : Mv) : ∃ (t : Int) (f : Bool) (x y : Int), mvV m = .agg #[.int .i64 (t), .bool (f), .int .i64 (x), .int .i64 (y)] := ⟨_, _, _, _, rfl⟩
theorem apV_ex (g t : Int) (f : Bool) (ox oy x y : Int) : ∃ a b e, apV g t f ox oy x y = .tuple #[.agg #[.int .i64 (a), .int .i64 (b)], .int .i64 (e)] := by
  unfold apV
  split
  · exact ⟨_, _, _, rfl⟩
  · split <;> exact ⟨_, _, _, rfl⟩
theorem coV_ex (g tf : Int) (ff : Bool) (fx fy th : Int) (fh : Bool) (hx hy : Int) : ∃ (t : Int) (f : Bool) (x y e : Int), coV g tf ff fx fy th fh hx hy = .tuple #[.agg #[.int .i64 (t), .bool (f), .int .i64 (x), .int .i64 (y)], .int .i64 (e)] := by
  unfold coV
  split
  · exact ⟨_, _, _, _, _, rfl⟩
  · split
    · exact ⟨_, _, _, _, _, rfl⟩
    · split <;> exact ⟨_, _, _, _, _, rfl⟩
theorem inV_ex (g t : Int) (f : Bool) (x y : Int) : ∃ (t' : Int) (f' : Bool) (x' y' e : Int), inV g t f x y = .tuple #[.agg #[.int .i64 (t'), .bool (f'), .int .i64 (x'), .int .i64 (y')], .int .i64 (e)] := by
  unfold inV
  split
  · exact ⟨_, _, _, _, _, rfl⟩
  · split <;> exact ⟨_, _, _, _, _, rfl⟩
theorem orV_ex (g t : Int) (f : Bool) (x y : Int) : ∃ (n e : Int), orV g t f x y = .tuple #[.int .i64 (n), .int .i64 (e)] := by
  unfold orV
  split <;> exact ⟨_, _, rfl⟩
end Go.Proofs.Ytdaacjaibfcacaa

namespace Go.Proofs.Ytdaacjaibfcacaa
open Go.RowKit
set_option linter.unusedVariables false
set_option linter.unusedSimpArgs false
open Z (IsGcd Normal nrm Mv To lin mir okT idm both bothT inv pw)
theorem smB_true {x y : Int} (h : smB x y = true) : -1048576 ≤ x ∧ x ≤ 1048576 ∧ -1048576 ≤ y ∧ y ≤ 1048576 := by simpa [smB] using h
/-- g is a grid, m a right move of it. -/
structure OkM (g : Int) (m : Mv) : Prop where
  gr : g = 4 ∨ g = 6
  t : m.t < g.toNat
  s : smB m.o.1 m.o.2 = true
theorem OkM.w {g : Int} {m : Mv} (h : OkM g m) : wE g m.t m.o.1 m.o.2 = 0 := by
  have hs := smB_true h.s
  have hg := h.gr
  have ht := h.t
  have hk : knB g = true := by simp [knB]; exact hg
  have hf : fltE g [(m.o.1, m.o.2)] = 0 := by simp [fltE, hk, smL, h.s]
  unfold wE
  rw [if_neg (by simp [hf]), if_neg (by omega)]
theorem OkM.of {g t x y : Int} (f : Bool) (h : wE g t x y = 0) : ∃ n : Nat, t = n ∧ OkM g ⟨n, f, (x, y)⟩ := by
  obtain ⟨hg, hs, n, rfl, hn⟩ := wE_zero h
  exact ⟨n, rfl, hg, hn, by simp [smB]; omega⟩
theorem coV_cases (g tf : Int) (ff : Bool) (fx fy th : Int) (fh : Bool) (hx hy : Int) :
    (∃ e : Int, e ≠ 0 ∧ coV g tf ff fx fy th fh hx hy = .tuple #[.agg #[.int .i64 (0), .bool (false), .int .i64 (0), .int .i64 (0)], .int .i64 (e)]) ∨
    (∃ n m : Nat, tf = n ∧ th = m ∧ OkM g ⟨n,ff,(fx,fy)⟩ ∧ OkM g ⟨m,fh,(hx,hy)⟩ ∧ OkM g (both g ⟨n,ff,(fx,fy)⟩ ⟨m,fh,(hx,hy)⟩) ∧ coV g tf ff fx fy th fh hx hy = .tuple #[mvV (both g ⟨n,ff,(fx,fy)⟩ ⟨m,fh,(hx,hy)⟩), .int .i64 (0)]) := by
  by_cases h1 : wE g tf fx fy = 0
  · by_cases h2 : wE g th hx hy = 0
    · obtain ⟨n, rfl, o1⟩ := OkM.of ff h1
      obtain ⟨m, rfl, o2⟩ := OkM.of fh h2
      cases h3 : smB (both g ⟨n,ff,(fx,fy)⟩ ⟨m,fh,(hx,hy)⟩).o.1 (both g ⟨n,ff,(fx,fy)⟩ ⟨m,fh,(hx,hy)⟩).o.2 with
      | false => exact .inl ⟨4, by omega, by simp [coV, h1, h2, h3]⟩
      | true => exact .inr ⟨n, m, rfl, rfl, o1, o2, ⟨o1.gr, Z.both_ok o1.gr _ _, h3⟩, by simp [coV, h1, h2, h3]⟩
    · exact .inl ⟨_, h2, by simp [coV, h1, h2]⟩
  · exact .inl ⟨_, h1, by simp [coV, h1]⟩
/-- Compose of right moves. -/
theorem coV_ok {g : Int} {f h : Mv} (o1 : OkM g f) (o2 : OkM g h) : coV g f.t f.f f.o.1 f.o.2 h.t h.f h.o.1 h.o.2 = if smB (both g f h).o.1 (both g f h).o.2 = false then .tuple #[.agg #[.int .i64 (0), .bool (false), .int .i64 (0), .int .i64 (0)], .int .i64 (4)] else .tuple #[mvV (both g f h), .int .i64 (0)] := by
  unfold coV
  rw [if_neg (by simp [o1.w]), if_neg (by simp [o2.w])]
  rfl
theorem apV_cases (g t : Int) (f : Bool) (ox oy x y : Int) :
    (∃ a b e : Int, e ≠ 0 ∧ apV g t f ox oy x y = .tuple #[.agg #[.int .i64 (a), .int .i64 (b)], .int .i64 (e)]) ∨
    (∃ n : Nat, t = n ∧ OkM g ⟨n,f,(ox,oy)⟩ ∧ smB x y = true ∧ smB (To g ⟨n,f,(ox,oy)⟩ (x,y)).1 (To g ⟨n,f,(ox,oy)⟩ (x,y)).2 = true ∧ apV g t f ox oy x y = .tuple #[.agg #[.int .i64 ((To g ⟨n,f,(ox,oy)⟩ (x,y)).1), .int .i64 ((To g ⟨n,f,(ox,oy)⟩ (x,y)).2)], .int .i64 (0)]) := by
  by_cases h1 : wE g t ox oy = 0
  · obtain ⟨n, rfl, o1⟩ := OkM.of f h1
    cases h2 : smB x y with
    | false => exact .inl ⟨0, 0, 3, by omega, by simp [apV, h1, h2]⟩
    | true =>
      cases h3 : smB (To g ⟨n,f,(ox,oy)⟩ (x,y)).1 (To g ⟨n,f,(ox,oy)⟩ (x,y)).2 with
      | false => exact .inl ⟨0, 0, 4, by omega, by simp [apV, h1, h2, h3, tdX, tdY, tdE]⟩
      | true => exact .inr ⟨n, rfl, o1, rfl, h3, by simp [apV, h1, h2, h3, tdX, tdY, tdE]⟩
  · exact .inl ⟨0, 0, _, h1, by simp [apV, h1]⟩
/-- Apply of a right move to a small point. -/
theorem apV_ok {g : Int} {m : Mv} (o : OkM g m) {z : Z.Pt} (hz : smB z.1 z.2 = true) : apV g m.t m.f m.o.1 m.o.2 z.1 z.2 = .tuple #[.agg #[.int .i64 (tdX (To g m z).1 (To g m z).2), .int .i64 (tdY (To g m z).1 (To g m z).2)], .int .i64 (tdE (To g m z).1 (To g m z).2)] := by
  unfold apV
  rw [if_neg (by simp [o.w]), if_neg (by simp [hz])]
  rfl
theorem inV_cases (g t : Int) (f : Bool) (x y : Int) :
    (∃ e : Int, e ≠ 0 ∧ inV g t f x y = .tuple #[.agg #[.int .i64 (0), .bool (false), .int .i64 (0), .int .i64 (0)], .int .i64 (e)]) ∨
    (∃ n : Nat, t = n ∧ OkM g ⟨n,f,(x,y)⟩ ∧ OkM g (inv g ⟨n,f,(x,y)⟩) ∧ inV g t f x y = .tuple #[mvV (inv g ⟨n,f,(x,y)⟩), .int .i64 (0)]) := by
  by_cases h1 : wE g t x y = 0
  · obtain ⟨n, rfl, o1⟩ := OkM.of f h1
    cases h3 : smB (inv g ⟨n,f,(x,y)⟩).o.1 (inv g ⟨n,f,(x,y)⟩).o.2 with
    | false => exact .inl ⟨4, by omega, by simp [inV, h1, h3]⟩
    | true => exact .inr ⟨n, rfl, o1, ⟨o1.gr, Z.inv_ok o1.gr o1.t, h3⟩, by simp [inV, h1, h3]⟩
  · exact .inl ⟨_, h1, by simp [inV, h1]⟩
theorem NV_same {g x y a b : Int} (h : nrm g (x,y) = nrm g (a,b)) (h1 : NE g x y = 0) (h2 : NE g a b = 0) : NV g x y = NV g a b := by
  unfold NE at h1 h2
  have e1 : tmX x y (miX g x y) (-y) = nrm g (x,y) := rfl
  have e2 : tmX a b (miX g a b) (-b) = nrm g (a,b) := rfl
  simp [NV, h1, h2, e1, e2, h]

theorem apply_both {g : Int} {f h : Mv} (of : OkM g f) (oh : OkM g h) (ofh : OkM g (both g f h)) {z : Z.Pt} (hz : smB z.1 z.2 = true) (hy : smB (To g h z).1 (To g h z).2 = true) :
    apV g (both g f h).t (both g f h).f (both g f h).o.1 (both g f h).o.2 z.1 z.2 = apV g f.t f.f f.o.1 f.o.2 (To g h z).1 (To g h z).2 := by
  rw [apV_ok ofh hz, apV_ok of hy, Z.To_both of.gr oh.t]
theorem compose_assoc {g : Int} {f h k : Mv} (of : OkM g f) (oh : OkM g h) (ok : OkM g k) (ofh : OkM g (both g f h)) (ohk : OkM g (both g h k)) :
    coV g (both g f h).t (both g f h).f (both g f h).o.1 (both g f h).o.2 k.t k.f k.o.1 k.o.2 = coV g f.t f.f f.o.1 f.o.2 (both g h k).t (both g h k).f (both g h k).o.1 (both g h k).o.2 := by
  rw [coV_ok ofh ok, coV_ok of ohk, Z.both_assoc of.gr oh.t ok.t]
theorem compose_inv {g : Int} {f : Mv} (of : OkM g f) (oi : OkM g (inv g f)) :
    coV g (inv g f).t (inv g f).f (inv g f).o.1 (inv g f).o.2 f.t f.f f.o.1 f.o.2 = .tuple #[.agg #[.int .i64 (0), .bool (false), .int .i64 (0), .int .i64 (0)], .int .i64 (0)] ∧
    coV g f.t f.f f.o.1 f.o.2 (inv g f).t (inv g f).f (inv g f).o.1 (inv g f).o.2 = .tuple #[.agg #[.int .i64 (0), .bool (false), .int .i64 (0), .int .i64 (0)], .int .i64 (0)] := by
  rw [coV_ok oi of, coV_ok of oi, (Z.both_inv of.gr of.t).1, (Z.both_inv of.gr of.t).2]
  exact ⟨rfl, rfl⟩
end Go.Proofs.Ytdaacjaibfcacaa

namespace Go.Proofs.Ytdaacjaibfcacaa
open Go.RowKit
set_option linter.unusedVariables false
set_option linter.unusedSimpArgs false
open Z (torN place pnt Mv To lin okT)
theorem torus_pt {n : Nat} (hn : 0 < n) (z : Z.Pt) : ∃ i j : Nat, z.1 % (n : Int) = i ∧ i < n ∧ z.2 % (n : Int) = j ∧ j < n ∧ place n z = j * n + i := by
  obtain ⟨i, e1, h1, e2⟩ := emod_nat z.1 hn
  obtain ⟨j, e3, h3, e4⟩ := emod_nat z.2 hn
  exact ⟨i, j, e1, h1, e3, h3, by unfold place; rw [e2, e4]⟩
set_option maxRecDepth 100000 in
set_option maxHeartbeats 8000000 in
theorem place_ok (g : Int) (n N : Nat) (a : Option Addr) (c : Nat) (x y : Int) (w : World) (hn : 0 < n) (h24 : n ≤ 24) (hx : (-9223372036854775808 ≤ x ∧ x ≤ 9223372036854775807)) (hy : (-9223372036854775808 ≤ y ∧ y ≤ 9223372036854775807)) :
    Calls Try.prog 78 #[.agg #[.int .i64 (g), .int .i64 (n), .slice a N c], .agg #[.int .i64 (x), .int .i64 (y)]] w fun e w' => e = .returned (.int .i64 (place n (x, y))) ∧ Below w.heap.size w w' := by
  obtain ⟨i, j, e1, i1, e3, j1, hp⟩ := torus_pt hn (x, y)
  obtain ⟨M, hM⟩ : ∃ M, j * n = M := ⟨_, rfl⟩
  obtain ⟨p, hpp⟩ : ∃ p, M + i = p := ⟨_, rfl⟩
  have hM4 : M ≤ 576 := by rw [← hM]; exact Nat.mul_le_mul (show j ≤ 24 by omega) h24
  have hMi : (j : Int) * (n : Int) = (M : Int) := by rw [← hM]; push_cast; rfl
  have hMp : (M : Int) + (i : Int) = (p : Int) := by rw [← hpp]; push_cast; rfl
  rw [hM, hpp] at hp
  rw [hp]
  have vM : IntKind.i64.wrap (M : Int) = (M : Int) := IntWalk.i64_in _ (by omega)
  have vp : IntKind.i64.wrap (p : Int) = (p : Int) := IntWalk.i64_in _ (by omega)
  have rx := rest_eq (a := x) hn
  have ry := rest_eq (a := y) hn
  simp only at e1 e3
  rw [e1] at rx
  rw [e3] at ry
  have hx1 := Int.tmod_lt_of_pos x (show (0 : Int) < n by omega)
  have hx2 := Int.lt_tmod_of_pos x (show (0 : Int) < n by omega)
  have hy1 := Int.tmod_lt_of_pos y (show (0 : Int) < n by omega)
  have hy2 := Int.lt_tmod_of_pos y (show (0 : Int) < n by omega)
  have w0 : ((n : Int) == 0) = false := by simp; omega
  have w1 : (n : Int) ≠ 0 := by omega
  have w2 : ¬ n = 0 := by omega
  obtain ⟨tx, htx⟩ : ∃ t, x.tmod (n : Int) = t := ⟨_, rfl⟩
  obtain ⟨ty, hty⟩ : ∃ t, y.tmod (n : Int) = t := ⟨_, rfl⟩
  rw [htx] at rx hx1 hx2
  rw [hty] at ry hy1 hy2
  have v1 : IntKind.i64.wrap tx = tx := IntWalk.i64_in _ (by omega)
  have v2 : IntKind.i64.wrap ty = ty := IntWalk.i64_in _ (by omega)
  clear e1 e3 hM hpp hp hn
  by_cases nx : tx < 0
  · rw [if_pos nx] at rx
    have d1 : decide (tx < 0) = true := by simpa using nx
    have a1 : tx + (n : Int) = (i : Int) := rx.symm
    have v3 : IntKind.i64.wrap (i : Int) = (i : Int) := IntWalk.i64_in _ (by omega)
    by_cases ny : ty < 0
    · rw [if_pos ny] at ry
      have d2 : decide (ty < 0) = true := by simpa using ny
      have a2 : ty + (n : Int) = (j : Int) := ry.symm
      have v4 : IntKind.i64.wrap (j : Int) = (j : Int) := IntWalk.i64_in _ (by omega)
      clear rx ry nx ny
      go_enter Try.func78, Try.ntmps78
      go_wp2_with fail
      (refine wp_region_ext (by kernel_rfl) (by kernel_rfl) ?_; (repeat (first | ((with_reducible refine ext_step (fun K hK => ?_)); go_simp; first | (refine hK _ ?_; clear hK K) | (apply Exists.intro; refine ⟨fun _ _ => ?_, hK _ ?_⟩; fail; clear hK K)))); refine wpQuiet_nil ?_; intro E d)
      go_wp2
      go_ret
      exact ⟨rfl, (by repeat (first | exact Below.refl _ _ | refine Below.drew ?_ | refine below_drewN ?_ _ | refine Below.alloc ?_ (by first | exact Nat.le_refl _ | (simp; done) | (simp; omega) | omega) _ | refine Below.setCell ?_ (by first | exact Nat.le_refl _ | (simp; done) | (simp; omega) | omega) _ | refine bExtW ?_ (by first | exact Nat.le_refl _ | (simp; done) | (simp; omega) | omega) | refine Below.trans ?_ (Below.mono (by assumption) (by first | exact Nat.le_refl _ | (simp; done) | (simp; omega) | omega))))⟩
    · rw [if_neg ny] at ry
      have d2 : decide (ty < 0) = false := by simpa using ny
      subst ry
      clear rx nx ny
      go_enter Try.func78, Try.ntmps78
      go_wp2_with fail
      (refine wp_region_ext (by kernel_rfl) (by kernel_rfl) ?_; (repeat (first | ((with_reducible refine ext_step (fun K hK => ?_)); go_simp; first | (refine hK _ ?_; clear hK K) | (apply Exists.intro; refine ⟨fun _ _ => ?_, hK _ ?_⟩; fail; clear hK K)))); refine wpQuiet_nil ?_; intro E d)
      go_wp2
      go_ret
      exact ⟨rfl, (by repeat (first | exact Below.refl _ _ | refine Below.drew ?_ | refine below_drewN ?_ _ | refine Below.alloc ?_ (by first | exact Nat.le_refl _ | (simp; done) | (simp; omega) | omega) _ | refine Below.setCell ?_ (by first | exact Nat.le_refl _ | (simp; done) | (simp; omega) | omega) _ | refine bExtW ?_ (by first | exact Nat.le_refl _ | (simp; done) | (simp; omega) | omega) | refine Below.trans ?_ (Below.mono (by assumption) (by first | exact Nat.le_refl _ | (simp; done) | (simp; omega) | omega))))⟩
  · rw [if_neg nx] at rx
    have d1 : decide (tx < 0) = false := by simpa using nx
    subst rx
    by_cases ny : ty < 0
    · rw [if_pos ny] at ry
      have d2 : decide (ty < 0) = true := by simpa using ny
      have a2 : ty + (n : Int) = (j : Int) := ry.symm
      have v4 : IntKind.i64.wrap (j : Int) = (j : Int) := IntWalk.i64_in _ (by omega)
      clear ry nx ny
      go_enter Try.func78, Try.ntmps78
      go_wp2_with fail
      (refine wp_region_ext (by kernel_rfl) (by kernel_rfl) ?_; (repeat (first | ((with_reducible refine ext_step (fun K hK => ?_)); go_simp; first | (refine hK _ ?_; clear hK K) | (apply Exists.intro; refine ⟨fun _ _ => ?_, hK _ ?_⟩; fail; clear hK K)))); refine wpQuiet_nil ?_; intro E d)
      go_wp2
      go_ret
      exact ⟨rfl, (by repeat (first | exact Below.refl _ _ | refine Below.drew ?_ | refine below_drewN ?_ _ | refine Below.alloc ?_ (by first | exact Nat.le_refl _ | (simp; done) | (simp; omega) | omega) _ | refine Below.setCell ?_ (by first | exact Nat.le_refl _ | (simp; done) | (simp; omega) | omega) _ | refine bExtW ?_ (by first | exact Nat.le_refl _ | (simp; done) | (simp; omega) | omega) | refine Below.trans ?_ (Below.mono (by assumption) (by first | exact Nat.le_refl _ | (simp; done) | (simp; omega) | omega))))⟩
    · rw [if_neg ny] at ry
      have d2 : decide (ty < 0) = false := by simpa using ny
      subst ry
      clear nx ny
      go_enter Try.func78, Try.ntmps78
      go_wp2_with fail
      (refine wp_region_ext (by kernel_rfl) (by kernel_rfl) ?_; (repeat (first | ((with_reducible refine ext_step (fun K hK => ?_)); go_simp; first | (refine hK _ ?_; clear hK K) | (apply Exists.intro; refine ⟨fun _ _ => ?_, hK _ ?_⟩; fail; clear hK K)))); refine wpQuiet_nil ?_; intro E d)
      go_wp2
      go_ret
      exact ⟨rfl, (by repeat (first | exact Below.refl _ _ | refine Below.drew ?_ | refine below_drewN ?_ _ | refine Below.alloc ?_ (by first | exact Nat.le_refl _ | (simp; done) | (simp; omega) | omega) _ | refine Below.setCell ?_ (by first | exact Nat.le_refl _ | (simp; done) | (simp; omega) | omega) _ | refine bExtW ?_ (by first | exact Nat.le_refl _ | (simp; done) | (simp; omega) | omega) | refine Below.trans ?_ (Below.mono (by assumption) (by first | exact Nat.le_refl _ | (simp; done) | (simp; omega) | omega))))⟩
def intsN (l : List Nat) : List Int := l.map fun (k : Nat) => (k : Int)
theorem intsN_len (l : List Nat) : (intsN l).length = l.length := by simp [intsN]
theorem intsN_get (l : List Nat) (k : Nat) : (intsN l).getD k 0 = (l.getD k 0 : Nat) := by
  unfold intsN
  rw [List.getD_eq_getElem?_getD, List.getElem?_map, List.getD_eq_getElem?_getD]
  cases l[k]? <;> rfl
/-- What keeps tells. -/
def keepsL (xs : List Int) (tos : List Nat) (n : Nat) (o : Z.Pt) : Bool := (List.range (n * n)).all fun k => decide (xs.getD k 0 = xs.getD (place n (Z.add (pnt n (tos.getD k 0)) o)) 0)
theorem keepsL_true {xs : List Int} {tos : List Nat} {n : Nat} {o : Z.Pt} (h : ∀ k, k < n * n → xs.getD k 0 = xs.getD (place n (Z.add (pnt n (tos.getD k 0)) o)) 0) : keepsL xs tos n o = true := by
  unfold keepsL; rw [List.all_eq_true]; exact fun k hk => decide_eq_true (h k (List.mem_range.1 hk))
theorem keepsL_false {xs : List Int} {tos : List Nat} {n k : Nat} {o : Z.Pt} (hk : k < n * n) (h : ¬ xs.getD k 0 = xs.getD (place n (Z.add (pnt n (tos.getD k 0)) o)) 0) : keepsL xs tos n o = false := by
  unfold keepsL; rw [List.all_eq_false]; exact ⟨k, List.mem_range.2 hk, by simpa using h⟩
theorem keepsL_eq {W H n : Nat} {cs : List Int} {g : Int} {t : Nat} {f : Bool} {o : Z.Pt} (hn : 0 < n) (hW : W ∣ n) (hH : H ∣ n) : keepsL (Z.laidL W H cs n) (Z.imageL g n t f) n o = Z.keepB W H cs g n ⟨t, f, o⟩ := by
  unfold keepsL Z.keepB
  rw [Bool.eq_iff_iff, List.all_eq_true, List.all_eq_true]
  refine forall_congr' fun k => forall_congr' fun hk => ?_
  rw [Z.keeps_at hn hW hH (List.mem_range.1 hk), Z.laidL_get (List.mem_range.1 hk)]
set_option maxRecDepth 100000 in
set_option maxHeartbeats 8000000 in
theorem keeps_ok (g : Int) (n N : Nat) (a ta : Option Addr) (c tc : Nat) (xs : List Int) (tos : List Nat) (ox oy : Int) (w : World) (hn : 0 < n) (h24 : n ≤ 24) (hN : n * n = N) (hI : IsInts w a N xs) (hT : IsInts w ta N (intsN tos)) (hlt : ∀ k, k < N → tos.getD k 0 < N) (hx : -1000000000000 ≤ ox ∧ ox ≤ 1000000000000) (hy : -1000000000000 ≤ oy ∧ oy ≤ 1000000000000) :
    Calls Try.prog 84 #[.agg #[.int .i64 (g), .int .i64 (n), .slice a N c], .slice ta N tc, .agg #[.int .i64 (ox), .int .i64 (oy)]] w fun e w' => e = .returned (.bool (keepsL xs tos n (ox, oy))) ∧ Below w.heap.size w w' := by
  have hN6 : N ≤ 576 := by rw [← hN]; exact Nat.mul_le_mul h24 h24
  have HP := Lib.hid (fun x y w h1 h2 => place_ok g n N a c x y w hn h24 h1 h2)
  have HF : Hid (∀ k, k < N → ¬ xs.getD k 0 = xs.getD (place n (Z.add (pnt n (tos.getD k 0)) (ox, oy))) 0 → keepsL xs tos n (ox, oy) = false) := Lib.hid fun k hk h => keepsL_false (by rw [hN]; exact hk) h
  have HTr : Hid ((∀ k, k < N → xs.getD k 0 = xs.getD (place n (Z.add (pnt n (tos.getD k 0)) (ox, oy))) 0) → keepsL xs tos n (ox, oy) = true) := Lib.hid fun h => keepsL_true (by rw [hN]; exact h)
  have HPL : Hid (∀ z, place n z < N) := Lib.hid fun z => by rw [← hN]; exact Z.place_lt hn z
  have HNN := Lib.hid hN
  have HI := Lib.hid hI; have HT := Lib.hid hT; have HL := Lib.hid hlt
  generalize keepsL xs tos n (ox, oy) = kk at *
  clear hI hT hlt hN
  go_enter Try.func84, Try.ntmps84
  go_wp2_with fail
  go_loopw [12] (fun i wr => ∃ (k : Nat) (E : Array Obj) (d : Nat), k ≤ N ∧ i = .int .i64 k ∧ Hid (∀ j, j < k → xs.getD j 0 = xs.getD (place n (Z.add (pnt n (tos.getD j 0)) (ox, oy))) 0) ∧ wr = extW ((w.alloc (.cells #[.int .i64 g, .int .i64 n, .slice a N c] 109)).alloc (.cells #[.int .i64 (ox), .int .i64 (oy)] 38)) E d) (fun i _ => N - (intOf i).toNat)
  case atStart => exact ⟨0, #[], _, by omega, rfl, Lib.hid fun j h => absurd h (by omega), extW_zero _⟩
  case round =>
    obtain ⟨k, E, d, hk, rfl, HK, rfl⟩ := hrel
    by_cases hkN : k < N
    · obtain ⟨tb, to', rfl, htb, htc⟩ := HT.out.2 (by omega)
      obtain ⟨b, o, rfl, hb, hc⟩ := HI.out.2 (by omega)
      have c0 := htc k hkN
      have c1 := hc k hkN
      rw [intsN_get] at c0
      have l0 : LtW tb w := htb
      have l1 : LtW b w := hb
      have hpN := HL.out k hkN
      obtain ⟨p, hp⟩ : ∃ p, tos.getD k 0 = p := ⟨_, rfl⟩
      have HF1 := Lib.hid (HF.out k hkN)
      rw [hp] at c0 hpN HF1
      obtain ⟨u, hu⟩ : ∃ u, p % n = u := ⟨_, rfl⟩
      obtain ⟨v, hv⟩ : ∃ v, p / n = v := ⟨_, rfl⟩
      have hu1 : u < n := by rw [← hu]; exact Nat.mod_lt _ hn
      have hv1 : v < n := by rw [← hv]; exact Nat.div_lt_of_lt_mul (by rw [HNN.out]; exact hpN)
      have hpn : Z.add (pnt n p) (ox, oy) = ((u : Int) + ox, (v : Int) + oy) := by unfold pnt Z.add; rw [hu, hv]
      have t1 : (p : Int).tmod (n : Int) = (u : Int) := by rw [← hu]; rfl
      have t2 : (p : Int).tdiv (n : Int) = (v : Int) := by rw [← hv]; rfl
      have v1 : IntKind.i64.wrap (u : Int) = (u : Int) := IntWalk.i64_in _ (by omega)
      have v2 : IntKind.i64.wrap (v : Int) = (v : Int) := IntWalk.i64_in _ (by omega)
      have v3 : IntKind.i64.wrap ((u : Int) + ox) = (u : Int) + ox := IntWalk.i64_in _ (by omega)
      have v4 : IntKind.i64.wrap ((v : Int) + oy) = (v : Int) + oy := IntWalk.i64_in _ (by omega)
      have b1 : ((n : Int) == 0) = false := by simp; omega
      have b2 : (n : Int) ≠ 0 := by omega
      have b3 : ¬ n = 0 := by omega
      rw [hpn] at HF1
      have HP1 := Lib.hid (fun w => HP.out ((u : Int) + ox) ((v : Int) + oy) w (by omega) (by omega))
      have hq := HPL.out ((u : Int) + ox, (v : Int) + oy)
      have HE : Hid (place n (Z.add (pnt n (tos.getD k 0)) (ox, oy)) = place n ((u : Int) + ox, (v : Int) + oy)) := Lib.hid (by rw [hp, hpn])
      generalize place n ((u : Int) + ox, (v : Int) + oy) = q at *
      have c2 := hc q hq
      obtain ⟨X1, hX1⟩ : ∃ X, xs.getD k 0 = X := ⟨_, rfl⟩
      obtain ⟨X2, hX2⟩ : ∃ X, xs.getD q 0 = X := ⟨_, rfl⟩
      rw [hX1] at c1 HF1
      rw [hX2] at c2 HF1
      have HX1 := Lib.hid hX1; have HX2 := Lib.hid hX2
      clear hc htc hb htb hu hv hp hpn HP HX1 HX2 hn
      by_cases hxx : X1 = X2
      · have hd : (X1 != X2) = false := by simpa using hxx
        have HR : Hid (xs.getD k 0 = xs.getD (place n (Z.add (pnt n (tos.getD k 0)) (ox, oy))) 0) := Lib.hid (by rw [HE.out, hX1, hX2]; exact hxx)
        clear hX1 hX2 hxx HE
        go_wp2_with fail
        (refine wp_region_ext (by kernel_rfl) (by kernel_rfl) ?_; (repeat (first | ((with_reducible refine ext_step (fun K hK => ?_)); go_simp; first | (refine hK _ ?_; clear hK K) | (apply Exists.intro; refine ⟨fun _ _ => ?_, hK _ ?_⟩; (go_at_call 78; exact extOf (HP1.out _)); clear hK K)))); refine wpQuiet_nil ?_; intro E d)
        go_wp2_with fail
        (refine wp_region_ext (by kernel_rfl) (by kernel_rfl) ?_; (repeat (first | ((with_reducible refine ext_step (fun K hK => ?_)); go_simp; first | (refine hK _ ?_; clear hK K) | (apply Exists.intro; refine ⟨fun _ _ => ?_, hK _ ?_⟩; fail; clear hK K)))); refine wpQuiet_nil ?_; intro E d)
        go_wp2
        go_roundw
        case rel => exact ⟨k + 1, _, _, by omega, by go_num, Lib.hid fun j hj => (by
          by_cases e : j = k
          · subst e; exact HR.out
          · exact HK.out j (by omega)), by simp only [extW_extW]; rfl⟩
        case measure => simp [intOf]; omega
      · have hd : (X1 != X2) = true := by simpa using hxx
        have HV := Lib.hid (HF1.out hxx)
        clear hX1 hX2 hxx HE HF1 HF
        go_wp2_with fail
        (refine wp_region_ext (by kernel_rfl) (by kernel_rfl) ?_; (repeat (first | ((with_reducible refine ext_step (fun K hK => ?_)); go_simp; first | (refine hK _ ?_; clear hK K) | (apply Exists.intro; refine ⟨fun _ _ => ?_, hK _ ?_⟩; (go_at_call 78; exact extOf (HP1.out _)); clear hK K)))); refine wpQuiet_nil ?_; intro E d)
        go_wp2_with fail
        (refine wp_region_ext (by kernel_rfl) (by kernel_rfl) ?_; (repeat (first | ((with_reducible refine ext_step (fun K hK => ?_)); go_simp; first | (refine hK _ ?_; clear hK K) | (apply Exists.intro; refine ⟨fun _ _ => ?_, hK _ ?_⟩; fail; clear hK K)))); refine wpQuiet_nil ?_; intro E d)
        go_wp2
        go_ret
        exact ⟨by rw [HV.out]; rfl, (by repeat (first | exact Below.refl _ _ | refine Below.drew ?_ | refine below_drewN ?_ _ | refine Below.alloc ?_ (by first | exact Nat.le_refl _ | (simp; done) | (simp; omega) | omega) _ | refine Below.setCell ?_ (by first | exact Nat.le_refl _ | (simp; done) | (simp; omega) | omega) _ | refine bExtW ?_ (by first | exact Nat.le_refl _ | (simp; done) | (simp; omega) | omega) | refine Below.trans ?_ (Below.mono (by assumption) (by first | exact Nat.le_refl _ | (simp; done) | (simp; omega) | omega))))⟩
    · have HV := Lib.hid (HTr.out (fun j hj => HK.out j (by omega)))
      go_wp2
      go_ret
      exact ⟨by rw [HV.out]; rfl, (by repeat (first | exact Below.refl _ _ | refine Below.drew ?_ | refine below_drewN ?_ _ | refine Below.alloc ?_ (by first | exact Nat.le_refl _ | (simp; done) | (simp; omega) | omega) _ | refine Below.setCell ?_ (by first | exact Nat.le_refl _ | (simp; done) | (simp; omega) | omega) _ | refine bExtW ?_ (by first | exact Nat.le_refl _ | (simp; done) | (simp; omega) | omega) | refine Below.trans ?_ (Below.mono (by assumption) (by first | exact Nat.le_refl _ | (simp; done) | (simp; omega) | omega))))⟩
end Go.Proofs.Ytdaacjaibfcacaa
