/- Lemmas and contracts of functions (what each call returns, and that it changes nothing that was there) that the proof of a law of this seat uses; each lemma states its own conditions. -/
import Derived.Test.YtooilennejakhaaB22
import Derived.Test.YtooilennejakhaaB06
namespace Go.Proofs.Ytooilennejakhaa
open Go.RowKit
set_option linter.unusedVariables false
set_option linter.unusedSimpArgs false
open Z (torN place pnt Mv To lin okT nrm)
/-- A list in a block of the call's own, all else as it was. -/
structure GL (e size : Nat) (L : List Value) (k : Nat) (W1 : World) (v : Value) (w : World) : Prop where
  own : w.ownsRow W1.heap.size e size v k L
  bel : Below W1.heap.size W1 w
theorem GL.below {e size k : Nat} {L : List Value} {W1 w w' : World} {v : Value} (h : GL e size L k W1 v w) (hb : Below w.heap.size w w') : GL e size L k W1 v w' :=
  ⟨ownBelow h.own hb, h.bel.trans (hb.mono h.bel.size)⟩
theorem GL.alloc {e size k : Nat} {L : List Value} {W1 w : World} {v : Value} (h : GL e size L k W1 v w) (o : Obj) : GL e size L k W1 v (w.alloc o) :=
  h.below ((Below.refl _ _).alloc (Nat.le_refl _) _)
theorem makeCap {t e bytes : Nat} {z : Value} (hE : ElemOk t e 1 bytes z) (hz : z.cells = #[z]) (n : Nat) (hb : bytes ≤ 4096) (hn : n ≤ 1000000000) : ∀ w : World,
    (Instr.makeSlice t (.int .i64 0) (.int .i64 (n : Int))).run Try.prog w = .ok (.slice (some ⟨w.heap.size, 0, none⟩) 0 n) (w.alloc (.cells (madeCells #[z] n) e)) := by
  intro w
  obtain ⟨h2, h3, h4, h5⟩ := hE
  obtain ⟨i0, hi, hz0, hz1, hz2⟩ := info_parts h3
  have hb' : (i0.bytes : Int) * (n : Int) ≤ 281474976710656 := by
    have h : ((i0.bytes * n : Nat) : Int) ≤ 281474976710656 := by
      have : i0.bytes * n ≤ 4096 * 1000000000 := Nat.mul_le_mul (by omega) hn
      omega
    rwa [Int.natCast_mul] at h
  have hr := run_make (P := Try.prog) w t e i0 z h2 hi hz0 .i64 .i64 0 n (Int.le_refl _) (by omega) hb' (by omega)
  simp only [Int.toNat_zero, Int.toNat_natCast, hz1, Nat.mul_one, hz] at hr
  exact hr
theorem GL.made (W1 : World) (e n : Nat) (z : Value) (hn : n ≤ 1000000000) : GL e 1 [] 0 W1 (.slice (some ⟨W1.heap.size, 0, none⟩) 0 n) (W1.alloc (.cells (madeCells #[z] n) e)) :=
  ⟨World.ownsRow_made W1 _ n (Nat.le_refl _) (by unfold maxLen; omega) (by rw [size_madeCells]; simp), (Below.refl _ _).alloc (Nat.le_refl _) _⟩
theorem GL.nil (W1 : World) (e size : Nat) : GL e size [] 0 W1 (.slice none 0 0) W1 := ⟨World.ownsRow_nil _ _ _ _, Below.refl _ _⟩
/-- A list of integers that the call made. -/
def OwnI (w : World) (base : Nat) (A : Option Addr) (n C : Nat) (L : List Int) : Prop := L.length = n ∧ w.ownsRow base 3 1 (.slice A n C) n (L.map i64v)
theorem OwnI.ints {w : World} {base n C : Nat} {A : Option Addr} {L : List Int} (h : OwnI w base A n C L) : IsInts w A n L := by
  obtain ⟨rfl, h2⟩ := h
  obtain ⟨a, c, e, h3, _⟩ := ints_owns h2
  injection e with e1
  subst e1
  exact h3
theorem OwnI.below {w w' : World} {base n C : Nat} {A : Option Addr} {L : List Int} (h : OwnI w base A n C L) (hb : Below w.heap.size w w') : OwnI w' base A n C L := ⟨h.1, ownBelow h.2 hb⟩
theorem own_neT {w : World} {b e s n b' e' s' n' : Nat} {v v' : Value} {xs xs' : List Value} (h : w.ownsRow b e s v n xs) (h' : w.ownsRow b' e' s' v' n' xs') (hne : e ≠ e') : ∀ k, v'.ownBlock = some k → v.ownBlock ≠ some k := by
  intro k e1 e2
  rcases h.2 with ⟨rfl, _⟩ | ⟨g, cap, cur, rfl, _, hg, _⟩
  · simp [Value.ownBlock] at e2
  · rcases h'.2 with ⟨rfl, _⟩ | ⟨g', cap', cur', rfl, _, hg', _⟩
    · simp [Value.ownBlock] at e1
    · simp [Value.ownBlock] at e1 e2
      subst e1 e2
      rw [hg] at hg'
      injection hg' with hg'
      injection hg' with _ h5
      exact hne h5
theorem own_grownT {w w' : World} {b e s n b' e' s' n' : Nat} {v v' : Value} {xs xs' : List Value} (h : w.ownsRow b e s v n xs) (h' : w.ownsRow b' e' s' v' n' xs') (hne : e ≠ e') (hg : w.grownBy w' v'.ownBlock) : w'.ownsRow b e s v n xs := by
  have hn := own_neT h h' hne
  refine ⟨h.1, ?_⟩
  rcases h.2 with h2 | ⟨g, cap, cur, e1, hb, hc, h3⟩
  · exact .inl h2
  · refine .inr ⟨g, cap, cur, e1, hb, ?_, h3⟩
    rw [hg.block g (Array.getElem?_eq_some_iff.1 hc).1 (fun e2 => hn g e2.symm (by rw [e1]; rfl))]
    exact hc
theorem own_setRow {w : World} {b e s n rb rt rn : Nat} {f : Nat → Value} {v u : Value} {xs : List Value} {i : Nat} (h : w.ownsRow b e s v n xs) (hr : w.rowIs rb rt rn f) (hne : rt ≠ e) : (w.setCell ⟨rb, i, none⟩ u).ownsRow b e s v n xs := by
  refine ⟨h.1, ?_⟩
  rcases h.2 with h2 | ⟨g, cap, cur, e1, hb, hc, h3⟩
  · exact .inl h2
  · refine .inr ⟨g, cap, cur, e1, hb, ?_, h3⟩
    rw [Below.heap_setCell _ _ _ g (fun e2 => ?_)]
    · exact hc
    · simp only at e2
      subst e2
      obtain ⟨c, h5, _⟩ := hr
      rw [hc] at h5
      injection h5 with h5
      injection h5 with _ h6
      exact hne h6.symm
theorem OwnI.grownT {w w' : World} {base n C b' e' s' n' : Nat} {A : Option Addr} {L : List Int} {v' : Value} {xs' : List Value} (h : OwnI w base A n C L) (h' : w.ownsRow b' e' s' v' n' xs') (hne : 3 ≠ e') (hg : w.grownBy w' v'.ownBlock) : OwnI w' base A n C L := ⟨h.1, own_grownT h.2 h' hne hg⟩
theorem OwnI.setRow {w : World} {base n C rb rt rn i : Nat} {f : Nat → Value} {A : Option Addr} {L : List Int} {u : Value} (h : OwnI w base A n C L) (hr : w.rowIs rb rt rn f) (hne : rt ≠ 3) : OwnI (w.setCell ⟨rb, i, none⟩ u) base A n C L := ⟨h.1, own_setRow h.2 hr hne⟩
theorem own_baseV {w : World} {base base' e size n : Nat} {v : Value} {xs : List Value} (h : w.ownsRow base e size v n xs) (hb : base' ≤ base) : w.ownsRow base' e size v n xs := by
  refine ⟨h.1, ?_⟩
  rcases h.2 with h2 | ⟨g, cap, cur, e1, hb2, h3⟩
  · exact .inl h2
  · exact .inr ⟨g, cap, cur, e1, by omega, h3⟩
theorem lin_small {g : Int} (hg : g = 4 ∨ g = 6) (t : Nat) (f : Bool) {x y : Int} (hx : 0 ≤ x ∧ x ≤ 24) (hy : 0 ≤ y ∧ y ≤ 24) : (-48 ≤ (lin g t f (x,y)).1 ∧ (lin g t f (x,y)).1 ≤ 48) ∧ (-48 ≤ (lin g t f (x,y)).2 ∧ (lin g t f (x,y)).2 ≤ 48) := by
  have h1 := Z.nrm_bd hg (a := (x,y)) (B := 24) (by omega) (by omega)
  have h2 := Z.nrm_lin hg t f (x,y)
  exact Z.part_bd hg (by omega) (by rw [h2]; omega)
theorem To_small {g : Int} (hg : g = 4 ∨ g = 6) (t : Nat) (f : Bool) {x y ox oy : Int} (hx : 0 ≤ x ∧ x ≤ 24) (hy : 0 ≤ y ∧ y ≤ 24) (h1 : 0 ≤ ox ∧ ox ≤ 24) (h2 : 0 ≤ oy ∧ oy ≤ 24) : (-72 ≤ (To g ⟨t, f, (ox,oy)⟩ (x,y)).1 ∧ (To g ⟨t, f, (ox,oy)⟩ (x,y)).1 ≤ 72) ∧ (-72 ≤ (To g ⟨t, f, (ox,oy)⟩ (x,y)).2 ∧ (To g ⟨t, f, (ox,oy)⟩ (x,y)).2 ≤ 72) := by
  have h := lin_small hg t f hx hy
  unfold To Z.add
  simp only
  omega
/-- Apply of a move on the torus to a point there. -/
theorem Apply_small (g : Int) (t : Nat) (f : Bool) (ox oy x y : Int) (w : World) (hg : g = 4 ∨ g = 6) (ht : t < g.toNat) (hx : 0 ≤ x ∧ x ≤ 24) (hy : 0 ≤ y ∧ y ≤ 24) (h1 : 0 ≤ ox ∧ ox ≤ 24) (h2 : 0 ≤ oy ∧ oy ≤ 24) :
    Calls Try.prog 46 #[.int .i64 (g), .agg #[.int .i64 (t), .bool (f), .int .i64 (ox), .int .i64 (oy)], .agg #[.int .i64 (x), .int .i64 (y)]] w fun e w' => e = .returned (.tuple #[.agg #[.int .i64 ((To g ⟨t, f, (ox,oy)⟩ (x,y)).1), .int .i64 ((To g ⟨t, f, (ox,oy)⟩ (x,y)).2)], .int .i64 (0)]) ∧ Below w.heap.size w w' := by
  have hb := To_small hg t f hx hy h1 h2
  have o1 : OkM g ⟨t, f, (ox, oy)⟩ := ⟨hg, ht, by simp [smB]; omega⟩
  have h3 : smB (To g ⟨t, f, (ox,oy)⟩ (x,y)).1 (To g ⟨t, f, (ox,oy)⟩ (x,y)).2 = true := by simp [smB]; omega
  have h4 := apV_ok o1 (z := (x, y)) (by simp [smB]; omega)
  have h5 := Apply_any g t ox oy x y f w (by omega) (by omega) (by omega) (by omega) (by omega) (by omega)
  simp only [tdX, tdY, tdE, h3, if_true] at h4
  rw [h4] at h5
  exact h5
/-- Where the places go, as far as m. -/
def imP (g : Int) (n t : Nat) (f : Bool) (m : Nat) : List Value := (List.range m).map fun j => Value.int .i64 (place n (lin g t f (pnt n j)))
theorem imP_succ (g : Int) (n t : Nat) (f : Bool) (m : Nat) : imP g n t f (m + 1) = imP g n t f m ++ [.int .i64 (place n (lin g t f (pnt n m)))] := by
  unfold imP; rw [List.range_succ, List.map_append]; rfl
theorem imP_all (g : Int) (n t : Nat) (f : Bool) : imP g n t f (n * n) = (intsN (Z.imageL g n t f)).map i64v := by
  unfold imP intsN Z.imageL i64v
  rw [List.map_map, List.map_map]; rfl
set_option maxRecDepth 100000 in
set_option maxHeartbeats 8000000 in
theorem image_ok (g : Int) (n N t : Nat) (f : Bool) (a : Option Addr) (c : Nat) (w : World) (hg : g = 4 ∨ g = 6) (ht : t < g.toNat) (hn : 0 < n) (h24 : n ≤ 24) (hN : n * n = N) :
    Calls Try.prog 27 #[.agg #[.int .i64 (g), .int .i64 (n), .slice a N c], .agg #[.int .i64 (t), .bool (f), .int .i64 (0), .int .i64 (0)]] w fun e w' => (∃ A C, e = .returned (.slice A N C) ∧ OwnI w' w.heap.size A N C (intsN (Z.imageL g n t f))) ∧ Below w.heap.size w w' := by
  have hN6 : N ≤ 576 := by rw [← hN]; exact Nat.mul_le_mul h24 h24
  have HP := Lib.hid (fun x y w h1 h2 => place_ok g n N a c x y w hn h24 h1 h2)
  have HA := Lib.hid (fun x y w h1 h2 => Apply_small g t f 0 0 x y w hg ht h1 h2 (by omega) (by omega))
  have HLS := Lib.hid (fun (x y : Int) (h1 : 0 ≤ x ∧ x ≤ 24) (h2 : 0 ≤ y ∧ y ≤ 24) => lin_small hg t f h1 h2)
  have HALL := Lib.hid (imP_all g n t f)
  rw [hN] at HALL
  have hNi : (n : Int) * (n : Int) = (N : Int) := by rw [← hN]; push_cast; rfl
  have vN : IntKind.i64.wrap (N : Int) = (N : Int) := IntWalk.i64_in _ (by omega)
  have hmk := makeCap okI8 rfl N (by omega) (by omega)
  have HN := Lib.hid hN
  have hlen : (Z.imageL g n t f).length = N := by rw [Z.imageL_len, hN]
  have HLEN := Lib.hid hlen
  clear hN hg ht hlen
  go_enter Try.func27, Try.ntmps27
  go_wp2_with fail
  have hG := GL.made ((w.alloc (.cells #[.int .i64 g, .int .i64 n, .slice a N c] 60)).alloc (.cells #[.int .i64 t, .bool f, .int .i64 0, .int .i64 0] 39)) 3 N (.int .i64 0) (by omega)
  rw [World.size_alloc, World.size_alloc] at hG
  obtain ⟨W1, hW1⟩ : ∃ W1, W1 = (w.alloc (.cells #[.int .i64 g, .int .i64 n, .slice a N c] 60)).alloc (.cells #[.int .i64 t, .bool f, .int .i64 0, .int .i64 0] 39) := ⟨_, rfl⟩
  have HB1 : Hid (Below w.heap.size w W1) := Lib.hid (by rw [hW1]; exact (by repeat (first | exact Below.refl _ _ | refine Below.drew ?_ | refine below_drewN ?_ _ | refine Below.alloc ?_ (by first | exact Nat.le_refl _ | (simp; done) | (simp; omega) | omega) _ | refine Below.setCell ?_ (by first | exact Nat.le_refl _ | (simp; done) | (simp; omega) | omega) _ | refine bExtW ?_ (by first | exact Nat.le_refl _ | (simp; done) | (simp; omega) | omega) | refine Below.trans ?_ (Below.mono (by assumption) (by first | exact Nat.le_refl _ | (simp; done) | (simp; omega) | omega)))))
  have hsz : W1.heap.size = w.heap.size + 2 := by rw [hW1, World.size_alloc, World.size_alloc]
  have hs0 : w.heap.size < W1.heap.size := by omega
  have hs1 : w.heap.size + 1 < W1.heap.size := by omega
  have cb0 : W1.cell? ⟨w.heap.size, 0, none⟩ = some (.int .i64 (g)) := by rw [hW1]; simp [go_sem]
  have cb1 : W1.cell? ⟨w.heap.size, 1, none⟩ = some (.int .i64 (n)) := by rw [hW1]; simp [go_sem]
  have cb2 : W1.cell? ⟨w.heap.size, 2, none⟩ = some (.slice a N c) := by rw [hW1]; simp [go_sem]
  have cm0 : W1.cell? ⟨w.heap.size + 1, 0, none⟩ = some (.int .i64 (t)) := by rw [hW1]; simp [go_sem]
  have cm1 : W1.cell? ⟨w.heap.size + 1, 1, none⟩ = some (.bool f) := by rw [hW1]; simp [go_sem]
  have cm2 : W1.cell? ⟨w.heap.size + 1, 2, none⟩ = some (.int .i64 (0)) := by rw [hW1]; simp [go_sem]
  have cm3 : W1.cell? ⟨w.heap.size + 1, 3, none⟩ = some (.int .i64 (0)) := by rw [hW1]; simp [go_sem]
  have HW1 := Lib.hid hW1
  have HSZ := Lib.hid hsz
  have HG0 := Lib.hid hG
  clear hW1 hsz hmk vN hNi hG
  go_loopw [5, 18] (fun ov yv wr => ∃ (y : Nat), y ≤ n ∧ yv = .int .i64 y ∧ Hid (GL 3 1 (imP g n t f (y * n)) (y * n) W1 ov wr)) (fun _ yv _ => n - (intOf yv).toNat)
  case atStart => exact ⟨0, by omega, rfl, Lib.hid (by rw [HW1.out, Nat.zero_mul]; exact HG0.out)⟩
  case round =>
    obtain ⟨y, hy, rfl, HG⟩ := hrel
    have k0 := bCs HG.out.bel cb0
    have k1 := bCs HG.out.bel cb1
    have k2 := bCs HG.out.bel cb2
    have m0 := bCs HG.out.bel cm0
    have m1 := bCs HG.out.bel cm1
    have m2 := bCs HG.out.bel cm2
    have m3 := bCs HG.out.bel cm3
    have lk : LtW w.heap.size wr := Nat.lt_of_lt_of_le hs0 (HG.out.bel).size
    have lm : LtW (w.heap.size + 1) wr := Nat.lt_of_lt_of_le hs1 (HG.out.bel).size
    have hsw : W1.heap.size ≤ (wr).heap.size := (HG.out.bel).size
    by_cases hyn : y < n
    · have vy : IntKind.i64.wrap ((y : Int) + 1) = (y : Int) + 1 := IntWalk.i64_in _ (by omega)
      have dy : decide ((y : Int) < (n : Int)) = true := by simpa using hyn
      go_wp2_with fail
      obtain ⟨wo, rfl⟩ : ∃ wo : World, wo = wr := ⟨_, rfl⟩
      go_loopw [5, 23] (fun ov xv wr => ∃ (x : Nat), x ≤ n ∧ xv = .int .i64 x ∧ Hid (GL 3 1 (imP g n t f (y * n + x)) (y * n + x) W1 ov wr)) (fun _ xv _ => n - (intOf xv).toNat)
      case atStart => exact ⟨0, by omega, rfl, HG⟩
      case round =>
        clear k0 k1 k2 m0 m1 m2 m3 lk lm hsw HG
        obtain ⟨x, hx, rfl, HG⟩ := hrel
        have k0 := bCs HG.out.bel cb0
        have k1 := bCs HG.out.bel cb1
        have k2 := bCs HG.out.bel cb2
        have m0 := bCs HG.out.bel cm0
        have m1 := bCs HG.out.bel cm1
        have m2 := bCs HG.out.bel cm2
        have m3 := bCs HG.out.bel cm3
        have lk : LtW w.heap.size wr := Nat.lt_of_lt_of_le hs0 (HG.out.bel).size
        have lm : LtW (w.heap.size + 1) wr := Nat.lt_of_lt_of_le hs1 (HG.out.bel).size
        have hsw : W1.heap.size ≤ (wr).heap.size := (HG.out.bel).size
        by_cases hxn : x < n
        · have vx : IntKind.i64.wrap ((x : Int) + 1) = (x : Int) + 1 := IntWalk.i64_in _ (by omega)
          have dx : decide ((x : Int) < (n : Int)) = true := by simpa using hxn
          have HA1 := Lib.hid (fun w => HA.out (x : Int) (y : Int) w (by omega) (by omega))
          have hls := HLS.out (x : Int) (y : Int) (by omega) (by omega)
          have hpt : pnt n (y * n + x) = ((x : Int), (y : Int)) := by
            unfold pnt
            rw [Nat.mul_comm, Nat.mul_add_mod, Nat.mod_eq_of_lt hxn, Nat.mul_add_div (by omega), Nat.div_eq_of_lt hxn, Nat.add_zero]
          have HS := Lib.hid (imP_succ g n t f (y * n + x))
          rw [hpt] at HS
          have hmN : y * n + x ≤ 1000 := by have := Nat.mul_le_mul (show y ≤ 24 by omega) h24; omega
          rw [To_o0] at HA1
          generalize lin g t f ((x : Int), (y : Int)) = p at *
          obtain ⟨px, py⟩ := p
          have HP1 := Lib.hid (fun w => HP.out px py w (by simp only at hls; omega) (by simp only at hls; omega))
          generalize place n (px, py) = q at *
          clear HP HA HLS hls HALL hpt
          go_wp2_with fail
          refine (HA1.out _).mono ?_
          rintro r w2 ⟨rfl, hb2⟩
          have HG2 := Lib.hid (HG.out.below hb2)
          clear k0 k1 k2 m0 m1 m2 m3 lk lm hsw HG hb2
          have k0 := bCs HG2.out.bel cb0
          have k1 := bCs HG2.out.bel cb1
          have k2 := bCs HG2.out.bel cb2
          have m0 := bCs HG2.out.bel cm0
          have m1 := bCs HG2.out.bel cm1
          have m2 := bCs HG2.out.bel cm2
          have m3 := bCs HG2.out.bel cm3
          have lk : LtW w.heap.size w2 := Nat.lt_of_lt_of_le hs0 (HG2.out.bel).size
          have lm : LtW (w.heap.size + 1) w2 := Nat.lt_of_lt_of_le hs1 (HG2.out.bel).size
          have hsw : W1.heap.size ≤ (w2).heap.size := (HG2.out.bel).size
          go_wp2_with fail
          refine (HP1.out _).mono ?_
          rintro r w3 ⟨rfl, hb3⟩
          have HG3 := Lib.hid ((HG2.out.alloc _).below hb3)
          clear k0 k1 k2 m0 m1 m2 m3 lk lm hsw HG2 hb3
          go_wp2_with (at_builtin; refine wpApp okI8 rfl (.tmp 36) (.tmp 40) rfl W1.heap.size _ _ _ #[.int .i64 q] rfl HG3.out.own rfl rfl (by simp [Value.oneCell']) (by omega) (by omega) HG3.out.bel.size ?_)
          intro v' w4 hown4 hb4
          obtain ⟨A', cp', rfl⟩ := own_form hown4
          have HG4 : Hid (GL 3 1 (imP g n t f (y * n + x + 1)) (y * n + x + 1) W1 (.slice A' (y * n + x + 1) cp') w4) := Lib.hid ⟨by rw [HS.out]; exact hown4, HG3.out.bel.trans hb4⟩
          clear hown4 hb4 HG3
          go_wp2
          go_roundw
          case rel => exact ⟨x + 1, by omega, by go_num, HG4⟩
          case measure => simp [intOf]; omega
        · obtain rfl : x = n := by omega
          have dx : decide ((x : Int) < (x : Int)) = false := by simp
          rw [← Nat.succ_mul] at HG
          go_wp2
          go_roundw
          case rel => exact ⟨y + 1, by omega, by go_num, HG⟩
          case measure => simp [intOf]; omega
    · obtain rfl : y = n := by omega
      have dy : decide ((y : Int) < (y : Int)) = false := by simp
      rw [HN.out, HALL.out] at HG
      have hlt := HLEN.out
      have hl2 : (intsN (Z.imageL g y t f)).length = N := by rw [intsN_len]; exact hlt
      have ho := HG.out.own
      obtain ⟨A, C, rfl⟩ := own_form ho
      have HAA : Hid (OwnI wr w.heap.size A N C (intsN (Z.imageL g y t f))) := Lib.hid ⟨hl2, own_baseV ho (by omega)⟩
      have HBL := Lib.hid (HB1.out.trans (HG.out.bel.mono (by omega)))
      clear hlt hl2 ho HG
      go_wp2
      go_ret
      exact ⟨⟨A, C, rfl, HAA.out⟩, HBL.out⟩
end Go.Proofs.Ytooilennejakhaa

namespace Go.Proofs.Ytooilennejakhaa
open Go.RowKit
set_option linter.unusedVariables false
set_option linter.unusedSimpArgs false
open Go.Proofs.Ytooilennejakhaa.Z
theorem tdiv_bdK {x y B : Int} (h : -B ≤ x ∧ x ≤ B) : -B ≤ Int.tdiv x y ∧ Int.tdiv x y ≤ B := by
  have h1 : (Int.tdiv x y).natAbs ≤ x.natAbs := by
    rw [Int.natAbs_tdiv]
    exact Nat.div_le_self _ _
  omega
theorem mul_bdK {x y A B : Int} (hx : -A ≤ x ∧ x ≤ A) (hy : 0 ≤ y ∧ y ≤ B) (hA : 0 ≤ A) : -(A * B) ≤ x * y ∧ x * y ≤ A * B := by
  have h1 : x * y ≤ A * y := Int.mul_le_mul_of_nonneg_right hx.2 hy.1
  have h2 : A * y ≤ A * B := Int.mul_le_mul_of_nonneg_left hy.2 hA
  have h3 : -A * y ≤ x * y := Int.mul_le_mul_of_nonneg_right hx.1 hy.1
  rw [Int.neg_mul] at h3
  omega
set_option maxRecDepth 100000 in
set_option maxHeartbeats 8000000 in
theorem ktimes_any (zx zy px py : Int) (w : World) (hz : (-1000 ≤ zx ∧ zx ≤ 1000) ∧ (-1000 ≤ zy ∧ zy ≤ 1000)) (hne : (px, py) ≠ (0, 0)) :
    Calls Try.prog 56 #[.agg #[.int .i64 (zx), .int .i64 (zy)], .agg #[.int .i64 (px), .int .i64 (py)]] w fun e w' => e = .returned (.int .i64 (tms (zx, zy) (px, py))) ∧ Below w.heap.size w w' := by
  have v1 : IntKind.i64.wrap (Int.tdiv zx px) = Int.tdiv zx px := IntWalk.i64_in _ (by have := tdiv_bdK (y := px) hz.1; omega)
  have v2 : IntKind.i64.wrap (Int.tdiv zy py) = Int.tdiv zy py := IntWalk.i64_in _ (by have := tdiv_bdK (y := py) hz.2; omega)
  go_enter Try.func56, Try.ntmps56
  by_cases h : px = 0
  · have b1 : (px != 0) = false := by simpa using h
    have h2 : py ≠ 0 := fun h2 => hne (by rw [h, h2])
    have b2 : (py == 0) = false := by simpa using h2
    have HT : Hid (tms (zx, zy) (px, py) = Int.tdiv zy py) := Lib.hid (by unfold tms; rw [if_neg (by simpa using h)])
    go_wp2
    go_ret
    exact ⟨by rw [HT.out]; rfl, (by repeat (first | exact Below.refl _ _ | refine Below.drew ?_ | refine below_drewN ?_ _ | refine Below.alloc ?_ (by first | exact Nat.le_refl _ | (simp; done) | (simp; omega) | omega) _ | refine Below.setCell ?_ (by first | exact Nat.le_refl _ | (simp; done) | (simp; omega) | omega) _ | refine bExtW ?_ (by first | exact Nat.le_refl _ | (simp; done) | (simp; omega) | omega) | refine Below.trans ?_ (Below.mono (by assumption) (by first | exact Nat.le_refl _ | (simp; done) | (simp; omega) | omega))))⟩
  · have b1 : (px != 0) = true := by simpa using h
    have b2 : (px == 0) = false := by simpa using h
    have HT : Hid (tms (zx, zy) (px, py) = Int.tdiv zx px) := Lib.hid (by unfold tms; rw [if_pos (by simpa using h)])
    go_wp2
    go_ret
    exact ⟨by rw [HT.out]; rfl, (by repeat (first | exact Below.refl _ _ | refine Below.drew ?_ | refine below_drewN ?_ _ | refine Below.alloc ?_ (by first | exact Nat.le_refl _ | (simp; done) | (simp; omega) | omega) _ | refine Below.setCell ?_ (by first | exact Nat.le_refl _ | (simp; done) | (simp; omega) | omega) _ | refine bExtW ?_ (by first | exact Nat.le_refl _ | (simp; done) | (simp; omega) | omega) | refine Below.trans ?_ (Below.mono (by assumption) (by first | exact Nat.le_refl _ | (simp; done) | (simp; omega) | omega))))⟩
set_option maxRecDepth 100000 in
set_option maxHeartbeats 8000000 in
theorem khas_any (a b c : Nat) (x y : Int) (w : World) (ha : 0 < a ∧ a ≤ 24) (hb : 0 < b ∧ b ≤ 24) (hc : c ≤ 24) (hx : -1000 ≤ x ∧ x ≤ 1000) (hy : -1000 ≤ y ∧ y ≤ 1000) :
    Calls Try.prog 44 #[.agg #[.int .i64 (a), .int .i64 0, .int .i64 (c), .int .i64 (b)], .agg #[.int .i64 (x), .int .i64 (y)]] w fun e w' => e = .returned (.bool (latB a b c (x, y))) ∧ Below w.heap.size w w' := by
  obtain ⟨R, hR⟩ : ∃ R, latB a b c (x, y) = R := ⟨_, rfl⟩
  rw [hR]
  have b0 : ((b : Int) == 0) = false := by simp; omega
  have b0' : (b == 0) = false := by simp; omega
  have b0'' : (b : Int) ≠ 0 := by omega
  have b9 : ¬ b = 0 := by omega
  have a9 : ¬ a = 0 := by omega
  have a0 : ((a : Int) == 0) = false := by simp; omega
  have a0' : (a == 0) = false := by simp; omega
  go_enter Try.func44, Try.ntmps44
  by_cases h : Int.tmod y b = 0
  · have hd : (b : Int) ∣ y := Int.dvd_of_tmod_eq_zero h
    have hq : Int.tdiv y b = y / b := Int.tdiv_eq_ediv_of_dvd hd
    have hqb : -1000 ≤ y / b ∧ y / b ≤ 1000 := by rw [← hq]; exact tdiv_bdK hy
    have hmb := mul_bdK hqb (show (0 : Int) ≤ (c : Int) ∧ (c : Int) ≤ 24 by omega) (by omega)
    have v0 : IntKind.i64.wrap (Int.tdiv y b) = y / b := by rw [hq]; exact IntWalk.i64_in _ (by omega)
    have v1 : IntKind.i64.wrap (y / b * c) = y / b * c := IntWalk.i64_in _ (by omega)
    have v2 : IntKind.i64.wrap (x - y / b * c) = x - y / b * c := IntWalk.i64_in _ (by omega)
    have HR : Hid (R = (Int.tmod (x - y / b * c) a == 0)) := Lib.hid (by
      rw [← hR]
      unfold latB
      rw [decide_eq_true (Int.emod_eq_zero_of_dvd hd), Bool.true_and]
      apply Bool.eq_iff_iff.2
      rw [decide_eq_true_eq, beq_iff_eq]
      exact ⟨fun h => Int.tmod_eq_zero_of_dvd (Int.dvd_of_emod_eq_zero h), fun h => Int.emod_eq_zero_of_dvd (Int.dvd_of_tmod_eq_zero h)⟩)
    have b1 : (Int.tmod y b == 0) = true := by simpa using h
    have v3 : IntKind.i64.wrap (y / b) = y / b := IntWalk.i64_in _ (by omega)
    have HH := Lib.hid hqb
    clear hR hd hqb hmb
    go_wp2_with fail
    (refine wp_region_ext (by kernel_rfl) (by kernel_rfl) ?_; (repeat (first | ((with_reducible refine ext_step (fun K hK => ?_)); go_simp; first | (refine hK _ ?_; clear hK K) | (apply Exists.intro; refine ⟨fun _ _ => ?_, hK _ ?_⟩; fail; clear hK K)))); refine wpQuiet_nil ?_; intro E d)
    go_wp2
    go_ret
    exact ⟨by rw [HR.out]; rfl, (by repeat (first | exact Below.refl _ _ | refine Below.drew ?_ | refine below_drewN ?_ _ | refine Below.alloc ?_ (by first | exact Nat.le_refl _ | (simp; done) | (simp; omega) | omega) _ | refine Below.setCell ?_ (by first | exact Nat.le_refl _ | (simp; done) | (simp; omega) | omega) _ | refine bExtW ?_ (by first | exact Nat.le_refl _ | (simp; done) | (simp; omega) | omega) | refine Below.trans ?_ (Below.mono (by assumption) (by first | exact Nat.le_refl _ | (simp; done) | (simp; omega) | omega))))⟩
  · have b1 : (Int.tmod y b == 0) = false := by simpa using h
    have HR : Hid (R = false) := Lib.hid (by
      rw [← hR]
      unfold latB
      rw [decide_eq_false (fun h2 => h (Int.tmod_eq_zero_of_dvd (Int.dvd_of_emod_eq_zero h2)))]
      rfl)
    clear hR h
    go_wp2_with fail
    (refine wp_region_ext (by kernel_rfl) (by kernel_rfl) ?_; (repeat (first | ((with_reducible refine ext_step (fun K hK => ?_)); go_simp; first | (refine hK _ ?_; clear hK K) | (apply Exists.intro; refine ⟨fun _ _ => ?_, hK _ ?_⟩; fail; clear hK K)))); refine wpQuiet_nil ?_; intro E d)
    go_wp2
    go_ret
    exact ⟨by rw [HR.out]; rfl, (by repeat (first | exact Below.refl _ _ | refine Below.drew ?_ | refine below_drewN ?_ _ | refine Below.alloc ?_ (by first | exact Nat.le_refl _ | (simp; done) | (simp; omega) | omega) _ | refine Below.setCell ?_ (by first | exact Nat.le_refl _ | (simp; done) | (simp; omega) | omega) _ | refine bExtW ?_ (by first | exact Nat.le_refl _ | (simp; done) | (simp; omega) | omega) | refine Below.trans ?_ (Below.mono (by assumption) (by first | exact Nat.le_refl _ | (simp; done) | (simp; omega) | omega))))⟩
end Go.Proofs.Ytooilennejakhaa
