/- Lemmas and contracts of functions (what each call returns, and that it changes nothing that was there) that the proof of a law of this seat uses; each lemma states its own conditions. -/
import Derived.Test.YtnjheiiohfhckaaP13
import Derived.Test.YtnjheiiohfhckaaEo
import Derived.Deep.DeepCutAuto
namespace Go.Proofs.Ytnjheiiohfhckaa
open Go.RowKit
set_option linter.unusedVariables false
set_option linter.unusedSimpArgs false
open Z (IsGcd Normal nrm Mv To lin mir okT idm both bothT inv pw)
theorem smB_true {x y : Int} (h : smB x y = true) : -1048576 ≤ x ∧ x ≤ 1048576 ∧ -1048576 ≤ y ∧ y ≤ 1048576 := by simpa [smB] using h
/-- g is a grid, m a right move of it. -/
structure OkM (g : Int) (m : Mv) : Prop where
  gr : g = 4 ∨ g = 6
  t : m.t < g.toNat
  s : smB m.o.1 m.o.2 = true
theorem OkM.w {g : Int} {m : Mv} (h : OkM g m) : wE g m.t m.o.1 m.o.2 = 0 := by
  have hs := smB_true h.s
  have hg := h.gr
  have ht := h.t
  have hk : knB g = true := by simp [knB]; exact hg
  have hf : fltE g [(m.o.1, m.o.2)] = 0 := by simp [fltE, hk, smL, h.s]
  unfold wE
  rw [if_neg (by simp [hf]), if_neg (by omega)]
theorem OkM.of {g t x y : Int} (f : Bool) (h : wE g t x y = 0) : ∃ n : Nat, t = n ∧ OkM g ⟨n, f, (x, y)⟩ := by
  obtain ⟨hg, hs, n, rfl, hn⟩ := wE_zero h
  exact ⟨n, rfl, hg, hn, by simp [smB]; omega⟩
theorem coV_cases (g tf : Int) (ff : Bool) (fx fy th : Int) (fh : Bool) (hx hy : Int) :
    (∃ e : Int, e ≠ 0 ∧ coV g tf ff fx fy th fh hx hy = .tuple #[.agg #[.int .i64 (0), .bool (false), .int .i64 (0), .int .i64 (0)], .int .i64 (e)]) ∨
    (∃ n m : Nat, tf = n ∧ th = m ∧ OkM g ⟨n,ff,(fx,fy)⟩ ∧ OkM g ⟨m,fh,(hx,hy)⟩ ∧ OkM g (both g ⟨n,ff,(fx,fy)⟩ ⟨m,fh,(hx,hy)⟩) ∧ coV g tf ff fx fy th fh hx hy = .tuple #[mvV (both g ⟨n,ff,(fx,fy)⟩ ⟨m,fh,(hx,hy)⟩), .int .i64 (0)]) := by
  by_cases h1 : wE g tf fx fy = 0
  · by_cases h2 : wE g th hx hy = 0
    · obtain ⟨n, rfl, o1⟩ := OkM.of ff h1
      obtain ⟨m, rfl, o2⟩ := OkM.of fh h2
      cases h3 : smB (both g ⟨n,ff,(fx,fy)⟩ ⟨m,fh,(hx,hy)⟩).o.1 (both g ⟨n,ff,(fx,fy)⟩ ⟨m,fh,(hx,hy)⟩).o.2 with
      | false => exact .inl ⟨4, by omega, by simp [coV, h1, h2, h3]⟩
      | true => exact .inr ⟨n, m, rfl, rfl, o1, o2, ⟨o1.gr, Z.both_ok o1.gr _ _, h3⟩, by simp [coV, h1, h2, h3]⟩
    · exact .inl ⟨_, h2, by simp [coV, h1, h2]⟩
  · exact .inl ⟨_, h1, by simp [coV, h1]⟩
/-- Compose of right moves. -/
theorem coV_ok {g : Int} {f h : Mv} (o1 : OkM g f) (o2 : OkM g h) : coV g f.t f.f f.o.1 f.o.2 h.t h.f h.o.1 h.o.2 = if smB (both g f h).o.1 (both g f h).o.2 = false then .tuple #[.agg #[.int .i64 (0), .bool (false), .int .i64 (0), .int .i64 (0)], .int .i64 (4)] else .tuple #[mvV (both g f h), .int .i64 (0)] := by
  unfold coV
  rw [if_neg (by simp [o1.w]), if_neg (by simp [o2.w])]
  rfl
theorem apV_cases (g t : Int) (f : Bool) (ox oy x y : Int) :
    (∃ a b e : Int, e ≠ 0 ∧ apV g t f ox oy x y = .tuple #[.agg #[.int .i64 (a), .int .i64 (b)], .int .i64 (e)]) ∨
    (∃ n : Nat, t = n ∧ OkM g ⟨n,f,(ox,oy)⟩ ∧ smB x y = true ∧ smB (To g ⟨n,f,(ox,oy)⟩ (x,y)).1 (To g ⟨n,f,(ox,oy)⟩ (x,y)).2 = true ∧ apV g t f ox oy x y = .tuple #[.agg #[.int .i64 ((To g ⟨n,f,(ox,oy)⟩ (x,y)).1), .int .i64 ((To g ⟨n,f,(ox,oy)⟩ (x,y)).2)], .int .i64 (0)]) := by
  by_cases h1 : wE g t ox oy = 0
  · obtain ⟨n, rfl, o1⟩ := OkM.of f h1
    cases h2 : smB x y with
    | false => exact .inl ⟨0, 0, 3, by omega, by simp [apV, h1, h2]⟩
    | true =>
      cases h3 : smB (To g ⟨n,f,(ox,oy)⟩ (x,y)).1 (To g ⟨n,f,(ox,oy)⟩ (x,y)).2 with
      | false => exact .inl ⟨0, 0, 4, by omega, by simp [apV, h1, h2, h3, tdX, tdY, tdE]⟩
      | true => exact .inr ⟨n, rfl, o1, rfl, h3, by simp [apV, h1, h2, h3, tdX, tdY, tdE]⟩
  · exact .inl ⟨0, 0, _, h1, by simp [apV, h1]⟩
/-- Apply of a right move to a small point. -/
theorem apV_ok {g : Int} {m : Mv} (o : OkM g m) {z : Z.Pt} (hz : smB z.1 z.2 = true) : apV g m.t m.f m.o.1 m.o.2 z.1 z.2 = .tuple #[.agg #[.int .i64 (tdX (To g m z).1 (To g m z).2), .int .i64 (tdY (To g m z).1 (To g m z).2)], .int .i64 (tdE (To g m z).1 (To g m z).2)] := by
  unfold apV
  rw [if_neg (by simp [o.w]), if_neg (by simp [hz])]
  rfl
theorem inV_cases (g t : Int) (f : Bool) (x y : Int) :
    (∃ e : Int, e ≠ 0 ∧ inV g t f x y = .tuple #[.agg #[.int .i64 (0), .bool (false), .int .i64 (0), .int .i64 (0)], .int .i64 (e)]) ∨
    (∃ n : Nat, t = n ∧ OkM g ⟨n,f,(x,y)⟩ ∧ OkM g (inv g ⟨n,f,(x,y)⟩) ∧ inV g t f x y = .tuple #[mvV (inv g ⟨n,f,(x,y)⟩), .int .i64 (0)]) := by
  by_cases h1 : wE g t x y = 0
  · obtain ⟨n, rfl, o1⟩ := OkM.of f h1
    cases h3 : smB (inv g ⟨n,f,(x,y)⟩).o.1 (inv g ⟨n,f,(x,y)⟩).o.2 with
    | false => exact .inl ⟨4, by omega, by simp [inV, h1, h3]⟩
    | true => exact .inr ⟨n, rfl, o1, ⟨o1.gr, Z.inv_ok o1.gr o1.t, h3⟩, by simp [inV, h1, h3]⟩
  · exact .inl ⟨_, h1, by simp [inV, h1]⟩
theorem NV_same {g x y a b : Int} (h : nrm g (x,y) = nrm g (a,b)) (h1 : NE g x y = 0) (h2 : NE g a b = 0) : NV g x y = NV g a b := by
  unfold NE at h1 h2
  have e1 : tmX x y (miX g x y) (-y) = nrm g (x,y) := rfl
  have e2 : tmX a b (miX g a b) (-b) = nrm g (a,b) := rfl
  simp [NV, h1, h2, e1, e2, h]

theorem apply_both {g : Int} {f h : Mv} (of : OkM g f) (oh : OkM g h) (ofh : OkM g (both g f h)) {z : Z.Pt} (hz : smB z.1 z.2 = true) (hy : smB (To g h z).1 (To g h z).2 = true) :
    apV g (both g f h).t (both g f h).f (both g f h).o.1 (both g f h).o.2 z.1 z.2 = apV g f.t f.f f.o.1 f.o.2 (To g h z).1 (To g h z).2 := by
  rw [apV_ok ofh hz, apV_ok of hy, Z.To_both of.gr oh.t]
theorem compose_assoc {g : Int} {f h k : Mv} (of : OkM g f) (oh : OkM g h) (ok : OkM g k) (ofh : OkM g (both g f h)) (ohk : OkM g (both g h k)) :
    coV g (both g f h).t (both g f h).f (both g f h).o.1 (both g f h).o.2 k.t k.f k.o.1 k.o.2 = coV g f.t f.f f.o.1 f.o.2 (both g h k).t (both g h k).f (both g h k).o.1 (both g h k).o.2 := by
  rw [coV_ok ofh ok, coV_ok of ohk, Z.both_assoc of.gr oh.t ok.t]
theorem compose_inv {g : Int} {f : Mv} (of : OkM g f) (oi : OkM g (inv g f)) :
    coV g (inv g f).t (inv g f).f (inv g f).o.1 (inv g f).o.2 f.t f.f f.o.1 f.o.2 = .tuple #[.agg #[.int .i64 (0), .bool (false), .int .i64 (0), .int .i64 (0)], .int .i64 (0)] ∧
    coV g f.t f.f f.o.1 f.o.2 (inv g f).t (inv g f).f (inv g f).o.1 (inv g f).o.2 = .tuple #[.agg #[.int .i64 (0), .bool (false), .int .i64 (0), .int .i64 (0)], .int .i64 (0)] := by
  rw [coV_ok oi of, coV_ok of oi, (Z.both_inv of.gr of.t).1, (Z.both_inv of.gr of.t).2]
  exact ⟨rfl, rfl⟩
set_option maxRecDepth 100000 in
set_option maxHeartbeats 8000000 in
theorem group_walk (g tf fx fy th hx hy tk kx ky zx zy wx wy : Int) (ff fh fk : Bool) (w : World) (hw : (-9223372036854775808 ≤ g ∧ g ≤ 9223372036854775807)) (ht : (-9223372036854775808 ≤ tf ∧ tf ≤ 9223372036854775807)) (h0 : (-9223372036854775808 ≤ fx ∧ fx ≤ 9223372036854775807)) (h1 : (-9223372036854775808 ≤ fy ∧ fy ≤ 9223372036854775807)) (ht2 : (-9223372036854775808 ≤ th ∧ th ≤ 9223372036854775807)) (h2 : (-9223372036854775808 ≤ hx ∧ hx ≤ 9223372036854775807)) (h3 : (-9223372036854775808 ≤ hy ∧ hy ≤ 9223372036854775807)) (ht3 : (-9223372036854775808 ≤ tk ∧ tk ≤ 9223372036854775807)) (h4 : (-9223372036854775808 ≤ kx ∧ kx ≤ 9223372036854775807)) (h5 : (-9223372036854775808 ≤ ky ∧ ky ≤ 9223372036854775807)) (h6 : (-9223372036854775808 ≤ zx ∧ zx ≤ 9223372036854775807)) (h7 : (-9223372036854775808 ≤ zy ∧ zy ≤ 9223372036854775807)) (h8 : (-9223372036854775808 ≤ wx ∧ wx ≤ 9223372036854775807)) (h9 : (-9223372036854775808 ≤ wy ∧ wy ≤ 9223372036854775807)) :
    Calls Try.prog 8 #[.int .i64 (g), .agg #[.int .i64 (tf), .bool (ff), .int .i64 (fx), .int .i64 (fy)], .agg #[.int .i64 (th), .bool (fh), .int .i64 (hx), .int .i64 (hy)], .agg #[.int .i64 (tk), .bool (fk), .int .i64 (kx), .int .i64 (ky)], .agg #[.int .i64 (zx), .int .i64 (zy)], .agg #[.int .i64 (wx), .int .i64 (wy)]] w fun e w' => e = .returned (.bool true) ∧ Below w.heap.size w w' := by
  rcases coV_cases g tf ff fx fy th fh hx hy with ⟨e, he, hV⟩ | ⟨n, m, rfl, rfl, of, oh, ofh, hV⟩
  · have hb : (e != 0) = true := by simpa using he
    have HV := Lib.hid hV
    clear hV he
    go_enter Try.func8, Try.ntmps8
    (go_wp2_with fail; refine (alive1_any _).mono ?_; rintro r w1 ⟨rfl, hb⟩; obtain ⟨E, d, rfl⟩ := bExt hb; clear hb)
    (go_wp2_with fail; refine (Compose_any g tf fx fy th hx hy ff fh _ hw ht h0 h1 ht2 h2 h3).mono ?_; rintro r w1 ⟨rfl, hb⟩; obtain ⟨E, d, rfl⟩ := bExt hb; clear hb)
    rw [HV.out]
    go_wp2
    go_ret
    exact ⟨rfl, (by repeat (first | exact Below.refl _ _ | refine Below.drew ?_ | refine below_drewN ?_ _ | refine Below.alloc ?_ (by first | exact Nat.le_refl _ | (simp; done) | (simp; omega) | omega) _ | refine Below.setCell ?_ (by first | exact Nat.le_refl _ | (simp; done) | (simp; omega) | omega) _ | refine bExtW ?_ (by first | exact Nat.le_refl _ | (simp; done) | (simp; omega) | omega) | refine Below.trans ?_ (Below.mono (by assumption) (by first | exact Nat.le_refl _ | (simp; done) | (simp; omega) | omega))))⟩
  · obtain ⟨T, FF, X, Y, hm⟩ := mvV_ex (both g ⟨n,ff,(fx,fy)⟩ ⟨m,fh,(hx,hy)⟩)
    have HOB := Lib.hid ofh
    have hV' := hV
    rw [hm] at hV' ofh
    simp only [mvV] at hV'
    have HV := Lib.hid hV'
    have HM := Lib.hid hm
    have sf := smB_true of.s
    have sh := smB_true oh.s
    have sfh := smB_true ofh.s
    have tfh : T < g.toNat := ofh.t
    have tf : n < g.toNat := of.t
    have th : m < g.toNat := oh.t
    simp only at sf sh sfh
    have hg := of.gr
    have HOF := Lib.hid of
    have HOH := Lib.hid oh
    clear hV hV' hm of oh ofh
    obtain ⟨a1, a2, e1, hA⟩ := apV_ex g m fh hx hy zx zy
    obtain ⟨c1, c2, c3, c4, e2, hC⟩ := coV_ex g m fh hx hy tk fk kx ky
    obtain ⟨i1, i2, i3, i4, e3, hI⟩ := inV_ex g n ff fx fy
    obtain ⟨p1, p2, e4, hP⟩ := apV_ex g n ff fx fy zx zy
    obtain ⟨q1, q2, e5, hQ⟩ := apV_ex g n ff fx fy wx wy
    have HA := Lib.hid hA; have HC := Lib.hid hC; have HI := Lib.hid hI; have HP := Lib.hid hP; have HQ := Lib.hid hQ
    clear hA hC hI hP hQ
    go_enter Try.func8, Try.ntmps8
    go_wp2_with fail
    refine (alive1_any _).mono ?_
    rintro r w1 ⟨rfl, hb⟩
    obtain ⟨E1, d1, rfl⟩ := bExt hb
    clear hb
    go_wp2_with fail
    refine (Compose_any g n fx fy m hx hy ff fh _ hw ht h0 h1 ht2 h2 h3).mono ?_
    rintro r w1 ⟨rfl, hb⟩
    obtain ⟨E2, d2, rfl⟩ := bExt hb
    clear hb
    rw [HV.out]
    (go_wp2_with fail; refine (Apply_any g m hx hy zx zy fh _ hw ht2 h2 h3 h6 h7).mono ?_; rintro r w1 ⟨rfl, hb⟩; obtain ⟨E, d, rfl⟩ := bExt hb; clear hb)
    rw [HA.out]
    go_upto_if 57 with fail
    go_cut [] (fun wq => ExtOf (((extW (extW (((((w.alloc (.cells #[.int .i64 (n), .bool ff, .int .i64 (fx), .int .i64 (fy)] 41)).alloc (.cells #[.int .i64 (m), .bool fh, .int .i64 (hx), .int .i64 (hy)] 41)).alloc (.cells #[.int .i64 (tk), .bool fk, .int .i64 (kx), .int .i64 (ky)] 41)).alloc (.cells #[.int .i64 (zx), .int .i64 (zy)] 32)).alloc (.cells #[.int .i64 (wx), .int .i64 (wy)] 32)) E1 d1) E2 d2).alloc (.cells #[.int .i64 (T), .bool FF, .int .i64 (X), .int .i64 (Y)] 41))) wq)
    case first =>
      by_cases he : e1 = 0
      · subst he
        obtain ⟨hz, hy2, rfl, rfl⟩ : smB zx zy = true ∧ smB (To g ⟨m,fh,(hx,hy)⟩ (zx,zy)).1 (To g ⟨m,fh,(hx,hy)⟩ (zx,zy)).2 = true ∧ a1 = (To g ⟨m,fh,(hx,hy)⟩ (zx,zy)).1 ∧ a2 = (To g ⟨m,fh,(hx,hy)⟩ (zx,zy)).2 := by
          rcases apV_cases g m fh hx hy zx zy with ⟨a, b, e, he, hE⟩ | ⟨m', hmm, _, hz, hy2, hE⟩
          · rw [HA.out] at hE; simp at hE; exact absurd hE.2.symm he
          · obtain rfl : m = m' := by omega
            rw [HA.out] at hE; simp at hE; exact ⟨hz, hy2, hE.1, hE.2⟩
        have hK := apply_both HOF.out HOH.out HOB.out (z := (zx,zy)) hz hy2
        rw [HM.out] at hK
        simp only at hK
        have sy := smB_true hy2
        obtain ⟨y1, hy1⟩ : ∃ y, y = (To g ⟨m,fh,(hx,hy)⟩ (zx,zy)).1 := ⟨_, rfl⟩
        obtain ⟨y2, hy2'⟩ : ∃ y, y = (To g ⟨m,fh,(hx,hy)⟩ (zx,zy)).2 := ⟨_, rfl⟩
        rw [← hy1, ← hy2'] at hK sy
        rw [← hy1, ← hy2']
        obtain ⟨b1, b2, e6, hB⟩ := apV_ex g n ff fx fy y1 y2
        rw [hB] at hK
        have HK := Lib.hid hK; have HB := Lib.hid hB
        clear hK hB hy2 hz hy1 hy2' HA HP HQ
        (go_wp2_with fail; refine (Apply_any g n fx fy y1 y2 ff _ hw ht h0 h1 (by omega) (by omega)).mono ?_; rintro r w1 ⟨rfl, hb⟩; obtain ⟨E, d, rfl⟩ := bExt hb; clear hb)
        rw [HB.out]
        (go_wp2_with fail; refine (Apply_any g T X Y zx zy FF _ hw (by omega) (by omega) (by omega) h6 h7).mono ?_; rintro r w1 ⟨rfl, hb⟩; obtain ⟨E, d, rfl⟩ := bExt hb; clear hb)
        rw [HK.out]
        go_wp2
        go_meet
        exact (by repeat (first | exact ExtOf.rf _ | refine ExtOf.al ?_ _ | refine ExtOf.ex ?_ _ _))
      · have he' : (e1 == 0) = false := by simpa using he
        clear he
        go_wp2
        go_meet
        exact (by repeat (first | exact ExtOf.rf _ | refine ExtOf.al ?_ _ | refine ExtOf.ex ?_ _ _))
    case rest =>
    obtain ⟨E3, d3, rfl⟩ := hcut
    (go_wp2_with fail; refine (Compose_any g m hx hy tk kx ky fh fk _ hw ht2 h2 h3 ht3 h4 h5).mono ?_; rintro r w1 ⟨rfl, hb⟩; obtain ⟨E, d, rfl⟩ := bExt hb; clear hb)
    rw [HC.out]
    go_upto_if 88 with fail
    go_cut [] (fun wq => ExtOf (((extW (extW (((((w.alloc (.cells #[.int .i64 (n), .bool ff, .int .i64 (fx), .int .i64 (fy)] 41)).alloc (.cells #[.int .i64 (m), .bool fh, .int .i64 (hx), .int .i64 (hy)] 41)).alloc (.cells #[.int .i64 (tk), .bool fk, .int .i64 (kx), .int .i64 (ky)] 41)).alloc (.cells #[.int .i64 (zx), .int .i64 (zy)] 32)).alloc (.cells #[.int .i64 (wx), .int .i64 (wy)] 32)) E1 d1) E2 d2).alloc (.cells #[.int .i64 (T), .bool FF, .int .i64 (X), .int .i64 (Y)] 41))) wq)
    case first =>
      by_cases he : e2 = 0
      · subst he
        obtain ⟨k, rfl, ok, ohk, hval⟩ : ∃ k : Nat, tk = k ∧ OkM g ⟨k,fk,(kx,ky)⟩ ∧ OkM g (both g ⟨m,fh,(hx,hy)⟩ ⟨k,fk,(kx,ky)⟩) ∧ mvV (both g ⟨m,fh,(hx,hy)⟩ ⟨k,fk,(kx,ky)⟩) = .agg #[.int .i64 (c1), .bool (c2), .int .i64 (c3), .int .i64 (c4)] := by
          rcases coV_cases g m fh hx hy tk fk kx ky with ⟨e, he, hE⟩ | ⟨m', k, hmm, rfl, _, ok, ohk, hE⟩
          · rw [HC.out] at hE; simp at hE; exact absurd hE.2.symm he
          · obtain rfl : m = m' := by omega
            rw [HC.out] at hE; simp only [Value.tuple.injEq, Array.mk.injEq, List.cons.injEq] at hE; exact ⟨k, rfl, ok, ohk, hE.1.symm⟩
        have hK := compose_assoc HOF.out HOH.out ok HOB.out ohk
        rw [HM.out] at hK
        obtain ⟨T2, F2, X2, Y2, hm2⟩ := mvV_ex (both g ⟨m,fh,(hx,hy)⟩ ⟨k,fk,(kx,ky)⟩)
        rw [hm2] at hK hval ohk
        simp only at hK
        simp only [mvV, Value.agg.injEq, Array.mk.injEq, List.cons.injEq, Value.int.injEq, Value.bool.injEq, true_and, and_true] at hval
        obtain ⟨rfl, rfl, rfl, rfl⟩ := hval
        have sx := smB_true ohk.s
        have tx := ohk.t
        simp only at sx tx
        obtain ⟨b1, b2, b3, b4, e6, hB⟩ := coV_ex g n ff fx fy T2 F2 X2 Y2
        rw [hB] at hK
        have HK := Lib.hid hK; have HB := Lib.hid hB
        clear hK hB ok ohk hm2 HA HP HQ
        (go_wp2_with fail; refine (Compose_any g T X Y k kx ky FF fk _ hw (by omega) (by omega) (by omega) ht3 h4 h5).mono ?_; rintro r w1 ⟨rfl, hb⟩; obtain ⟨E, d, rfl⟩ := bExt hb; clear hb)
        rw [HK.out]
        (go_wp2_with fail; refine (Compose_any g n fx fy T2 X2 Y2 ff F2 _ hw ht h0 h1 (by omega) (by omega) (by omega)).mono ?_; rintro r w1 ⟨rfl, hb⟩; obtain ⟨E, d, rfl⟩ := bExt hb; clear hb)
        rw [HB.out]
        go_wp2
        go_meet
        exact (by repeat (first | exact ExtOf.rf _ | refine ExtOf.al ?_ _ | refine ExtOf.ex ?_ _ _))
      · have he' : (e2 == 0) = false := by simpa using he
        clear he
        go_wp2
        go_meet
        exact (by repeat (first | exact ExtOf.rf _ | refine ExtOf.al ?_ _ | refine ExtOf.ex ?_ _ _))
    case rest =>
    obtain ⟨E4, d4, rfl⟩ := hcut
    (go_wp2_with fail; refine (Inverse_any g n fx fy ff _ hw ht h0 h1).mono ?_; rintro r w1 ⟨rfl, hb⟩; obtain ⟨E, d, rfl⟩ := bExt hb; clear hb)
    rw [HI.out]
    go_upto_if 118 with fail
    go_cut [] (fun wq => ExtOf (((extW (extW (((((w.alloc (.cells #[.int .i64 (n), .bool ff, .int .i64 (fx), .int .i64 (fy)] 41)).alloc (.cells #[.int .i64 (m), .bool fh, .int .i64 (hx), .int .i64 (hy)] 41)).alloc (.cells #[.int .i64 (tk), .bool fk, .int .i64 (kx), .int .i64 (ky)] 41)).alloc (.cells #[.int .i64 (zx), .int .i64 (zy)] 32)).alloc (.cells #[.int .i64 (wx), .int .i64 (wy)] 32)) E1 d1) E2 d2).alloc (.cells #[.int .i64 (T), .bool FF, .int .i64 (X), .int .i64 (Y)] 41))) wq)
    case first =>
      by_cases he : e3 = 0
      · subst he
        obtain ⟨oi, hval⟩ : OkM g (inv g ⟨n,ff,(fx,fy)⟩) ∧ mvV (inv g ⟨n,ff,(fx,fy)⟩) = .agg #[.int .i64 (i1), .bool (i2), .int .i64 (i3), .int .i64 (i4)] := by
          rcases inV_cases g n ff fx fy with ⟨e, he, hE⟩ | ⟨m', hmm, _, oi, hE⟩
          · rw [HI.out] at hE; simp at hE; exact absurd hE.2.symm he
          · obtain rfl : n = m' := by omega
            rw [HI.out] at hE; simp only [Value.tuple.injEq, Array.mk.injEq, List.cons.injEq] at hE; exact ⟨oi, hE.1.symm⟩
        obtain ⟨hK1, hK2⟩ := compose_inv HOF.out oi
        obtain ⟨T2, F2, X2, Y2, hm2⟩ := mvV_ex (inv g ⟨n,ff,(fx,fy)⟩)
        rw [hm2] at hK1 hK2 hval oi
        simp only at hK1 hK2
        simp only [mvV, Value.agg.injEq, Array.mk.injEq, List.cons.injEq, Value.int.injEq, Value.bool.injEq, true_and, and_true] at hval
        obtain ⟨rfl, rfl, rfl, rfl⟩ := hval
        have sx := smB_true oi.s
        have tx := oi.t
        simp only at sx tx
        have HK1 := Lib.hid hK1; have HK2 := Lib.hid hK2
        clear hK1 hK2 oi hm2 HA HP HQ
        (go_wp2_with fail; refine (Compose_any g T2 X2 Y2 n fx fy F2 ff _ hw (by omega) (by omega) (by omega) ht h0 h1).mono ?_; rintro r w1 ⟨rfl, hb⟩; obtain ⟨E, d, rfl⟩ := bExt hb; clear hb)
        rw [HK1.out]
        (go_wp2_with fail; refine (Compose_any g n fx fy T2 X2 Y2 ff F2 _ hw ht h0 h1 (by omega) (by omega) (by omega)).mono ?_; rintro r w1 ⟨rfl, hb⟩; obtain ⟨E, d, rfl⟩ := bExt hb; clear hb)
        rw [HK2.out]
        go_wp2
        go_meet
        exact (by repeat (first | exact ExtOf.rf _ | refine ExtOf.al ?_ _ | refine ExtOf.ex ?_ _ _))
      · have he' : (e3 == 0) = false := by simpa using he
        clear he
        go_wp2
        go_meet
        exact (by repeat (first | exact ExtOf.rf _ | refine ExtOf.al ?_ _ | refine ExtOf.ex ?_ _ _))
    case rest =>
    obtain ⟨E5, d5, rfl⟩ := hcut
    by_cases hp : e4 = 0
    · by_cases hq : e5 = 0
      · subst hp hq
        obtain ⟨hz, hzp⟩ : smB zx zy = true ∧ To g ⟨n,ff,(fx,fy)⟩ (zx,zy) = (p1,p2) ∧ smB p1 p2 = true := by
          rcases apV_cases g n ff fx fy zx zy with ⟨a, b, e, he, hE⟩ | ⟨m', hmm, _, hz, hy2, hE⟩
          · rw [HP.out] at hE; simp at hE; exact absurd hE.2.symm he
          · obtain rfl : n = m' := by omega
            rw [HP.out] at hE; simp at hE; exact ⟨hz, by rw [hE.1, hE.2], by rw [hE.1, hE.2]; exact hy2⟩
        obtain ⟨hz2, hzq⟩ : smB wx wy = true ∧ To g ⟨n,ff,(fx,fy)⟩ (wx,wy) = (q1,q2) ∧ smB q1 q2 = true := by
          rcases apV_cases g n ff fx fy wx wy with ⟨a, b, e, he, hE⟩ | ⟨m', hmm, _, hz, hy2, hE⟩
          · rw [HQ.out] at hE; simp at hE; exact absurd hE.2.symm he
          · obtain rfl : n = m' := by omega
            rw [HQ.out] at hE; simp at hE; exact ⟨hz, by rw [hE.1, hE.2], by rw [hE.1, hE.2]; exact hy2⟩
        have hN := Z.nrm_apart hg ⟨n,ff,(fx,fy)⟩ (zx,zy) (wx,wy)
        rw [hzp.1, hzq.1] at hN
        simp only [Z.sub] at hN
        have s1 := smB_true hz; have s2 := smB_true hz2; have s3 := smB_true hzp.2; have s4 := smB_true hzq.2
        have HNV := Lib.hid (fun h1 h2 => NV_same (g := g) hN h1 h2)
        clear hz hz2 hzp hzq hN
        have CP := Lib.hid (Norm_any g (p1 - q1) (p2 - q2))
        have CQ := Lib.hid (Norm_any g (zx - wx) (zy - wy))
        generalize NE g (p1 - q1) (p2 - q2) = N1 at *
        generalize NE g (zx - wx) (zy - wy) = N2 at *
        generalize NV g (p1 - q1) (p2 - q2) = V1 at *
        generalize NV g (zx - wx) (zy - wy) = V2 at *
        (go_wp2_with fail; refine (Apply_any g n fx fy zx zy ff _ hw ht h0 h1 h6 h7).mono ?_; rintro r w1 ⟨rfl, hb⟩; obtain ⟨E, d, rfl⟩ := bExt hb; clear hb)
        rw [HP.out]
        (go_wp2_with fail; refine (Apply_any g n fx fy wx wy ff _ hw ht h0 h1 h8 h9).mono ?_; rintro r w1 ⟨rfl, hb⟩; obtain ⟨E, d, rfl⟩ := bExt hb; clear hb)
        rw [HQ.out]
        go_wp2_with fail
        refine (CP.out _ (by omega) (by omega)).mono ?_
        rintro r w1 ⟨rfl, hb⟩
        obtain ⟨E, d, rfl⟩ := bExt hb
        clear hb
        go_wp2_with fail
        refine (CQ.out _ (by omega) (by omega)).mono ?_
        rintro r w1 ⟨rfl, hb⟩
        obtain ⟨E, d, rfl⟩ := bExt hb
        clear hb
        by_cases hn1 : N1 = 0
        · by_cases hn2 : N2 = 0
          · have hv := HNV.out hn1 hn2
            subst hn1 hn2 hv
            go_wp2
            go_ret
            exact ⟨rfl, (by repeat (first | exact Below.refl _ _ | refine Below.drew ?_ | refine below_drewN ?_ _ | refine Below.alloc ?_ (by first | exact Nat.le_refl _ | (simp; done) | (simp; omega) | omega) _ | refine Below.setCell ?_ (by first | exact Nat.le_refl _ | (simp; done) | (simp; omega) | omega) _ | refine bExtW ?_ (by first | exact Nat.le_refl _ | (simp; done) | (simp; omega) | omega) | refine Below.trans ?_ (Below.mono (by assumption) (by first | exact Nat.le_refl _ | (simp; done) | (simp; omega) | omega))))⟩
          · have hb2 : (N2 != 0) = true := by simpa using hn2
            subst hn1
            clear hn2
            go_wp2
            go_ret
            exact ⟨rfl, (by repeat (first | exact Below.refl _ _ | refine Below.drew ?_ | refine below_drewN ?_ _ | refine Below.alloc ?_ (by first | exact Nat.le_refl _ | (simp; done) | (simp; omega) | omega) _ | refine Below.setCell ?_ (by first | exact Nat.le_refl _ | (simp; done) | (simp; omega) | omega) _ | refine bExtW ?_ (by first | exact Nat.le_refl _ | (simp; done) | (simp; omega) | omega) | refine Below.trans ?_ (Below.mono (by assumption) (by first | exact Nat.le_refl _ | (simp; done) | (simp; omega) | omega))))⟩
        · have hb1 : (N1 != 0) = true := by simpa using hn1
          clear hn1
          go_wp2
          go_ret
          exact ⟨rfl, (by repeat (first | exact Below.refl _ _ | refine Below.drew ?_ | refine below_drewN ?_ _ | refine Below.alloc ?_ (by first | exact Nat.le_refl _ | (simp; done) | (simp; omega) | omega) _ | refine Below.setCell ?_ (by first | exact Nat.le_refl _ | (simp; done) | (simp; omega) | omega) _ | refine bExtW ?_ (by first | exact Nat.le_refl _ | (simp; done) | (simp; omega) | omega) | refine Below.trans ?_ (Below.mono (by assumption) (by first | exact Nat.le_refl _ | (simp; done) | (simp; omega) | omega))))⟩
      · have hb : (e5 != 0) = true := by simpa using hq
        subst hp
        clear hq
        (go_wp2_with fail; refine (Apply_any g n fx fy zx zy ff _ hw ht h0 h1 h6 h7).mono ?_; rintro r w1 ⟨rfl, hb⟩; obtain ⟨E, d, rfl⟩ := bExt hb; clear hb)
        rw [HP.out]
        (go_wp2_with fail; refine (Apply_any g n fx fy wx wy ff _ hw ht h0 h1 h8 h9).mono ?_; rintro r w1 ⟨rfl, hb⟩; obtain ⟨E, d, rfl⟩ := bExt hb; clear hb)
        rw [HQ.out]
        go_wp2
        go_ret
        exact ⟨rfl, (by repeat (first | exact Below.refl _ _ | refine Below.drew ?_ | refine below_drewN ?_ _ | refine Below.alloc ?_ (by first | exact Nat.le_refl _ | (simp; done) | (simp; omega) | omega) _ | refine Below.setCell ?_ (by first | exact Nat.le_refl _ | (simp; done) | (simp; omega) | omega) _ | refine bExtW ?_ (by first | exact Nat.le_refl _ | (simp; done) | (simp; omega) | omega) | refine Below.trans ?_ (Below.mono (by assumption) (by first | exact Nat.le_refl _ | (simp; done) | (simp; omega) | omega))))⟩
    · have hb : (e4 != 0) = true := by simpa using hp
      clear hp
      (go_wp2_with fail; refine (Apply_any g n fx fy zx zy ff _ hw ht h0 h1 h6 h7).mono ?_; rintro r w1 ⟨rfl, hb⟩; obtain ⟨E, d, rfl⟩ := bExt hb; clear hb)
      rw [HP.out]
      (go_wp2_with fail; refine (Apply_any g n fx fy wx wy ff _ hw ht h0 h1 h8 h9).mono ?_; rintro r w1 ⟨rfl, hb⟩; obtain ⟨E, d, rfl⟩ := bExt hb; clear hb)
      rw [HQ.out]
      go_wp2
      go_ret
      exact ⟨rfl, (by repeat (first | exact Below.refl _ _ | refine Below.drew ?_ | refine below_drewN ?_ _ | refine Below.alloc ?_ (by first | exact Nat.le_refl _ | (simp; done) | (simp; omega) | omega) _ | refine Below.setCell ?_ (by first | exact Nat.le_refl _ | (simp; done) | (simp; omega) | omega) _ | refine bExtW ?_ (by first | exact Nat.le_refl _ | (simp; done) | (simp; omega) | omega) | refine Below.trans ?_ (Below.mono (by assumption) (by first | exact Nat.le_refl _ | (simp; done) | (simp; omega) | omega))))⟩
end Go.Proofs.Ytnjheiiohfhckaa
