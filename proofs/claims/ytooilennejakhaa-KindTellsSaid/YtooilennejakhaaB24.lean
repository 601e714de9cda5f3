/- Lemmas and contracts of functions (what each call returns, and that it changes nothing that was there) that the proof of a law of this seat uses; each lemma states its own conditions. -/
import Derived.Test.YtooilennejakhaaB01
import Derived.Test.YtooilennejakhaaB17
namespace Go.Proofs.Ytooilennejakhaa.Z
set_option linter.unusedVariables false
set_option linter.unusedSimpArgs false
/-- Where a place goes: along the band, across it. -/
def bxN (W : Nat) (back : Bool) (t x : Nat) : Nat := if back then t + W - x else x + t
def byN (H : Nat) (over : Bool) (y : Nat) : Nat := if over then H - 1 - y else y
/-- Is the band the same, so moved? -/
def bsP (W H : Nat) (cs : List Int) (back over : Bool) (t : Nat) : Prop := ∀ y, y < H → ∀ x, x < W → cs.getD (y * W + x) 0 = cs.getD (byN H over y * W + bxN W back t x % W) 0
instance (W H : Nat) (cs : List Int) (back over : Bool) (t : Nat) : Decidable (bsP W H cs back over t) := by unfold bsP; infer_instance
def bsB (W H : Nat) (cs : List Int) (back over : Bool) (t : Nat) : Bool := decide (bsP W H cs back over t)
/-- By some step? -/
def keP (W H : Nat) (cs : List Int) (back over : Bool) (p q : Nat) : Prop := ∃ t, t < q ∧ p ≤ t ∧ bsP W H cs back over t
instance (W H : Nat) (cs : List Int) (back over : Bool) (p q : Nat) : Decidable (keP W H cs back over p q) := by unfold keP; infer_instance
def keB (W H : Nat) (cs : List Int) (back over : Bool) (p q : Nat) : Bool := decide (keP W H cs back over p q)
def bandV (u tu le gl : Bool) : Int := if u && le then 7 else if u && tu then 6 else if tu then 5 else if u then 4 else if le then 3 else if gl then 2 else 1
/-- The kind of a band. -/
def bandP (W H : Nat) (cs : List Int) : Int := bandV (keB W H cs true false 0 W) (keB W H cs true true 0 W) (keB W H cs false true 0 1) (keB W H cs false true 1 W)
theorem bandV_bd (u tu le gl : Bool) : 1 ≤ bandV u tu le gl ∧ bandV u tu le gl ≤ 7 := by
  cases u <;> cases tu <;> cases le <;> cases gl <;> decide
/-- The colour at a place of the band, that goes on for ever. -/
def cB (W : Nat) (cs : List Int) (x : Int) (y : Nat) : Int := cs.getD (y * W + (x % (W : Int)).toNat) 0
theorem cB_per {W : Nat} {cs : List Int} {x z k : Int} {y : Nat} (h : x = z + k * W) : cB W cs x y = cB W cs z y := by
  unfold cB
  rw [h, Int.add_mul_emod_self_right]
def bxZ (back : Bool) (t x : Int) : Int := if back then t - x else x + t
def smZ (W H : Nat) (cs : List Int) (back over : Bool) (t : Int) : Prop := ∀ y, y < H → ∀ x : Int, cB W cs x y = cB W cs (bxZ back t x) (byN H over y)
theorem emod_nat {W : Nat} (hW : 0 < W) (x : Int) : ∃ r : Nat, r < W ∧ x % (W : Int) = r ∧ ∃ k : Int, x = r + k * W := by
  have h1 := Int.emod_nonneg x (show (W : Int) ≠ 0 by omega)
  have h2 := Int.emod_lt_of_pos x (show (0 : Int) < W by omega)
  refine ⟨(x % (W : Int)).toNat, by omega, by omega, x / (W : Int), ?_⟩
  have := Int.emod_add_mul_ediv x (W : Int)
  rw [Int.mul_comm] at this
  omega
theorem cB_nat {W : Nat} {cs : List Int} {x y : Nat} (hx : x < W) : cB W cs (x : Int) y = cs.getD (y * W + x) 0 := by
  unfold cB
  rw [Int.emod_eq_of_lt (by omega) (by omega)]
  rfl
theorem cB_mod {W : Nat} {cs : List Int} {x y : Nat} : cB W cs (x : Int) y = cs.getD (y * W + x % W) 0 := rfl
theorem bx_cast {W : Nat} {back : Bool} {t x : Nat} {cs : List Int} {y : Nat} (hx : x < W) : cB W cs ((bxN W back t x : Nat) : Int) y = cB W cs (bxZ back t x) y := by
  unfold bxN bxZ
  cases back
  · simp
  · simp only [if_true]
    exact cB_per (k := 1) (by omega)
theorem bsP_iff {W H : Nat} {cs : List Int} {back over : Bool} {t : Nat} (hW : 0 < W) : bsP W H cs back over t ↔ smZ W H cs back over t := by
  unfold bsP smZ
  constructor
  · intro h y hy x
    obtain ⟨r, hr, _, k, hk⟩ := emod_nat hW x
    have := h y hy r hr
    rw [← cB_nat hr, ← cB_mod, bx_cast hr] at this
    rw [cB_per hk, this]
    unfold bxZ
    cases back
    · exact (cB_per (k := k) (by simp; omega)).symm
    · exact (cB_per (k := -k) (by simp only [if_true]; rw [Int.neg_mul]; omega)).symm
  · intro h y hy x hx
    rw [← cB_nat hx, ← cB_mod, bx_cast hx]
    exact h y hy x
theorem smZ_per {W H : Nat} {cs : List Int} {back over : Bool} {t u k : Int} (h : t = u + k * W) : smZ W H cs back over t ↔ smZ W H cs back over u := by
  unfold smZ
  have e : ∀ x y, cB W cs (bxZ back t x) y = cB W cs (bxZ back u x) y := fun x y => cB_per (k := k) (by unfold bxZ; split <;> omega)
  simp only [e]
theorem ke_any {W H : Nat} {cs : List Int} {back over : Bool} (hW : 0 < W) : keP W H cs back over 0 W ↔ ∃ t : Int, smZ W H cs back over t := by
  unfold keP
  constructor
  · rintro ⟨t, _, _, h⟩
    exact ⟨t, (bsP_iff hW).1 h⟩
  · rintro ⟨t, h⟩
    obtain ⟨r, hr, _, k, hk⟩ := emod_nat hW t
    exact ⟨r, hr, by omega, (bsP_iff hW).2 ((smZ_per hk).1 h)⟩
theorem ke_one {W H : Nat} {cs : List Int} {back over : Bool} (hW : 0 < W) : keP W H cs back over 0 1 ↔ smZ W H cs back over 0 := by
  unfold keP
  constructor
  · rintro ⟨t, h1, _, h⟩
    obtain rfl : t = 0 := by omega
    exact (bsP_iff hW).1 h
  · intro h
    exact ⟨0, by omega, by omega, (bsP_iff hW).2 h⟩
theorem ke_more {W H : Nat} {cs : List Int} {back over : Bool} (hW : 0 < W) : keP W H cs back over 1 W ↔ ∃ t : Int, ¬ (W : Int) ∣ t ∧ smZ W H cs back over t := by
  unfold keP
  constructor
  · rintro ⟨t, h1, h2, h⟩
    refine ⟨t, fun hd => ?_, (bsP_iff hW).1 h⟩
    have := Int.emod_eq_zero_of_dvd hd
    rw [Int.emod_eq_of_lt (by omega) (by omega)] at this
    omega
  · rintro ⟨t, hd, h⟩
    obtain ⟨r, hr, hr2, k, hk⟩ := emod_nat hW t
    refine ⟨r, hr, ?_, (bsP_iff hW).2 ((smZ_per hk).1 h)⟩
    by_cases h0 : r = 0
    · exact absurd (Int.dvd_of_emod_eq_zero (by rw [hr2, h0]; rfl)) hd
    · omega
/-- The three ways: begun elsewhere, upside down, backwards. -/
def wxZ (way : Nat) (at_ x : Int) : Int := if way = 0 then x + at_ else if way = 1 then x else -1 - x
def wyN (H way y : Nat) : Nat := if way = 1 then H - 1 - y else y
def tWay (way : Nat) (at_ : Int) (back : Bool) (t : Int) : Int := if way = 0 then (if back then t + 2 * at_ else t) else if way = 1 then t else (if back then -2 - t else -t)
theorem wy_lt {H way y : Nat} (h : y < H) : wyN H way y < H := by unfold wyN; split <;> omega
theorem by_wy {H way y : Nat} {over : Bool} (h : y < H) : wyN H way (byN H over y) = byN H over (wyN H way y) := by
  unfold wyN byN
  cases over <;> (repeat' split) <;> first | rfl | simp_all
theorem wy_wy {H way y : Nat} (h : y < H) : wyN H way (wyN H way y) = y := by unfold wyN; split <;> omega
theorem by_lt {H y : Nat} {over : Bool} (h : y < H) : byN H over y < H := by unfold byN; split <;> omega
theorem way_bx {way : Nat} {at_ t x : Int} {back : Bool} : wxZ way at_ (bxZ back t x) = bxZ back (tWay way at_ back t) (wxZ way at_ x) := by
  unfold wxZ bxZ tWay
  cases back <;> (repeat' split) <;> simp_all <;> omega
theorem sm_way {W H way : Nat} {at_ t : Int} {cs ds : List Int} {back over : Bool} (h : ∀ y, y < H → ∀ x : Int, cB W ds x y = cB W cs (wxZ way at_ x) (wyN H way y)) : smZ W H ds back over t ↔ smZ W H cs back over (tWay way at_ back t) := by
  unfold smZ
  constructor
  · intro k y hy x
    have hx : ∃ z, wxZ way at_ z = x := by
      unfold wxZ
      by_cases h0 : way = 0
      · exact ⟨x - at_, by rw [if_pos h0]; omega⟩
      · by_cases h1 : way = 1
        · exact ⟨x, by rw [if_neg h0, if_pos h1]⟩
        · exact ⟨-1 - x, by rw [if_neg h0, if_neg h1]; omega⟩
    obtain ⟨z, rfl⟩ := hx
    have := k (wyN H way y) (wy_lt hy) z
    rw [h _ (wy_lt hy), h _ (by_lt (wy_lt hy)), by_wy (wy_lt hy), wy_wy hy, way_bx] at this
    exact this
  · intro k y hy x
    have := k (wyN H way y) (wy_lt hy) (wxZ way at_ x)
    rw [h _ hy, h _ (by_lt hy), by_wy hy, way_bx]
    exact this
theorem tWay_on {way : Nat} {at_ : Int} {back : Bool} (u : Int) : ∃ t, tWay way at_ back t = u := by
  unfold tWay
  by_cases h0 : way = 0
  · cases back
    · exact ⟨u, by simp [h0]⟩
    · exact ⟨u - 2 * at_, by simp [h0] <;> omega⟩
  · by_cases h1 : way = 1
    · exact ⟨u, by simp [h1]⟩
    · cases back
      · exact ⟨-u, by simp [h0, h1]⟩
      · exact ⟨-2 - u, by simp [h0, h1] <;> omega⟩
theorem tWay_dvd {way : Nat} {at_ t W : Int} : W ∣ tWay way at_ false t ↔ W ∣ t := by
  unfold tWay
  (repeat' split) <;> simp_all
/-- So moved, a band is of the same kind. -/
theorem band_way {W H way : Nat} {at_ : Int} {cs ds : List Int} (hW : 0 < W) (h : ∀ y, y < H → ∀ x : Int, cB W ds x y = cB W cs (wxZ way at_ x) (wyN H way y)) : bandP W H ds = bandP W H cs := by
  have e1 : ∀ back over, keB W H ds back over 0 W = keB W H cs back over 0 W := fun back over => decide_eq_decide.2 (by
    rw [ke_any hW, ke_any hW]
    constructor
    · rintro ⟨t, k⟩
      exact ⟨_, (sm_way h).1 k⟩
    · rintro ⟨u, k⟩
      obtain ⟨t, rfl⟩ := tWay_on (way := way) (at_ := at_) (back := back) u
      exact ⟨t, (sm_way h).2 k⟩)
  have e2 : keB W H ds false true 0 1 = keB W H cs false true 0 1 := decide_eq_decide.2 (by
    rw [ke_one hW, ke_one hW, sm_way h]
    have : tWay way at_ false 0 = 0 := by unfold tWay; (repeat' split) <;> simp_all
    rw [this])
  have e3 : keB W H ds false true 1 W = keB W H cs false true 1 W := decide_eq_decide.2 (by
    rw [ke_more hW, ke_more hW]
    constructor
    · rintro ⟨t, hd, k⟩
      exact ⟨_, fun e => hd (tWay_dvd.1 e), (sm_way h).1 k⟩
    · rintro ⟨u, hd, k⟩
      obtain ⟨t, rfl⟩ := tWay_on (way := way) (at_ := at_) (back := false) u
      exact ⟨t, fun e => hd (tWay_dvd.2 e), (sm_way h).2 k⟩)
  unfold bandP
  rw [e1, e1, e2, e3]
/-- Which place's colour comes to a place. -/
def wxN (W way at_ x : Nat) : Nat := if way = 0 then (x + at_) % W else if way = 1 then x else W - 1 - x
def wayL (W H way at_ : Nat) (cs : List Int) : List Int := (List.range (W * H)).map fun p => cs.getD (wyN H way (p / W) * W + wxN W way at_ (p % W)) 0
theorem wayL_len (W H way at_ : Nat) (cs : List Int) : (wayL W H way at_ cs).length = W * H := by unfold wayL; simp
theorem bpl_lt {W H x y : Nat} (hx : x < W) (hy : y < H) : y * W + x < W * H := by
  have : (y + 1) * W ≤ H * W := Nat.mul_le_mul_right W (by omega)
  rw [Nat.add_mul, Nat.one_mul] at this
  rw [Nat.mul_comm W H]
  omega
theorem wayL_get {W H way at_ x y : Nat} {cs : List Int} (hx : x < W) (hy : y < H) : (wayL W H way at_ cs).getD (y * W + x) 0 = cs.getD (wyN H way y * W + wxN W way at_ x) 0 := by
  have hW : 0 < W := by omega
  unfold wayL
  rw [List.getD_eq_getElem?_getD, List.getElem?_map, List.getElem?_range (bpl_lt hx hy)]
  have e1 : (y * W + x) / W = y := by rw [Nat.mul_comm, Nat.mul_add_div hW, Nat.div_eq_of_lt hx, Nat.add_zero]
  have e2 : (y * W + x) % W = x := by rw [Nat.mul_comm, Nat.mul_add_mod, Nat.mod_eq_of_lt hx]
  simp only [Option.map_some, Option.getD_some, e1, e2]
theorem wx_lt {W way at_ x : Nat} (hx : x < W) : wxN W way at_ x < W := by
  unfold wxN
  split
  · exact Nat.mod_lt _ (by omega)
  · split <;> omega
theorem wayL_band {W H way at_ : Nat} {cs : List Int} (hW : 0 < W) (hw : way < 3) : bandP W H (wayL W H way at_ cs) = bandP W H cs := by
  refine band_way (way := way) (at_ := at_) hW fun y hy x => ?_
  obtain ⟨r, hr, _, k, hk⟩ := emod_nat hW x
  rw [cB_per hk, cB_nat hr, wayL_get hr hy, ← cB_nat (wx_lt hr)]
  have h3 : way = 0 ∨ way = 1 ∨ way = 2 := by omega
  rcases h3 with rfl | rfl | rfl
  · show cB W cs (((r + at_) % W : Nat) : Int) _ = cB W cs (x + at_) _
    have h1 := Nat.mod_add_div (r + at_) W
    refine (cB_per (k := k + (((r + at_) / W : Nat) : Int)) ?_).symm
    rw [hk]
    generalize (r + at_) % W = u at *
    generalize (r + at_) / W = v at *
    rw [Nat.mul_comm] at h1
    have : ((u : Int) + (v : Int) * (W : Int)) = (r : Int) + at_ := by
      have := congrArg (fun n : Nat => (n : Int)) h1
      push_cast at this
      exact this
    rw [Int.add_mul]
    omega
  · exact (cB_per hk).symm
  · show cB W cs ((W - 1 - r : Nat) : Int) _ = cB W cs (-1 - x) _
    refine (cB_per (k := -k - 1) ?_).symm
    rw [hk, Int.sub_mul, Int.neg_mul]
    omega
theorem wayL_mem {W H way at_ : Nat} {cs : List Int} {P : Int → Prop} (h0 : P 0) (h : ∀ x ∈ cs, P x) : ∀ x ∈ wayL W H way at_ cs, P x := by
  intro x hx
  unfold wayL at hx
  obtain ⟨p, _, rfl⟩ := List.mem_map.1 hx
  rw [List.getD_eq_getElem?_getD]
  cases hg : cs[wyN H way (p / W) * W + wxN W way at_ (p % W)]? with
  | none => exact h0
  | some v => exact h _ (List.mem_of_getElem? hg)
theorem wayL_take {W H way at_ x y : Nat} {cs : List Int} (hx : x < W) (hy : y < H) : (wayL W H way at_ cs).take (y * W + x + 1) = (wayL W H way at_ cs).take (y * W + x) ++ [cs.getD (wyN H way y * W + wxN W way at_ x) 0] := by
  have hl : y * W + x < (wayL W H way at_ cs).length := by rw [wayL_len]; exact bpl_lt hx hy
  rw [List.take_succ_eq_append_getElem hl, ← wayL_get hx hy, List.getD_eq_getElem?_getD, List.getElem?_eq_getElem hl]
  rfl
end Go.Proofs.Ytooilennejakhaa.Z

namespace Go.Proofs.Ytooilennejakhaa
open Go.RowKit
set_option linter.unusedVariables false
set_option linter.unusedSimpArgs false
open Z (bsP bsB bxN byN)
set_option maxRecDepth 100000 in
set_option maxHeartbeats 8000000 in
theorem same_ok (G W H n t : Nat) (back over : Bool) (a : Option Addr) (c : Nat) (cs : List Int) (w : World) (hI : IsInts w a n cs) (h : ChOk G W H n cs) (ht : t ≤ 64) :
    Calls Try.prog 30 #[.agg #[.int .i64 (G), .int .i64 (W), .int .i64 (H), .slice a n c], .bool back, .bool over, .int .i64 (t)] w fun r w' => r = .returned (.bool (bsB W H cs back over t)) ∧ Below w.heap.size w w' := by
  have hn4 := h.n4
  have hW1 := h.w1; have hW2 := h.w2; have hH1 := h.h1; have hH2 := h.h2
  have hn := h.hn
  have hI1 : IsInts (w.alloc (.cells #[.int .i64 (G), .int .i64 (W), .int .i64 (H), .slice (a) n c] 24)) a n cs := hI.below (by repeat (first | exact Below.refl _ _ | refine Below.drew ?_ | refine below_drewN ?_ _ | refine Below.alloc ?_ (by first | exact Nat.le_refl _ | (simp; done) | (simp; omega) | omega) _ | refine Below.setCell ?_ (by first | exact Nat.le_refl _ | (simp; done) | (simp; omega) | omega) _ | refine bExtW ?_ (by first | exact Nat.le_refl _ | (simp; done) | (simp; omega) | omega) | refine Below.trans ?_ (Below.mono (by assumption) (by first | exact Nat.le_refl _ | (simp; done) | (simp; omega) | omega))))
  obtain ⟨bb, bo, rfl, hb, hc⟩ := hI1.2 (by rw [hn]; exact Nat.mul_pos hW1 hH1)
  have HC := Lib.hid hc
  have lb : LtW bb (w.alloc (.cells #[.int .i64 (G), .int .i64 (W), .int .i64 (H), .slice (some ⟨bb, bo, none⟩) n c] 24)) := hb
  have HT : Hid (bsP W H cs back over t → bsB W H cs back over t = true) := Lib.hid fun h => decide_eq_true h
  have HF : Hid (¬ bsP W H cs back over t → bsB W H cs back over t = false) := Lib.hid fun h => decide_eq_false h
  have HP : Hid (∀ y x, y < H → x < W → y * W + x < n) := Lib.hid fun y x hy hx => by rw [hn]; exact Z.bpl_lt hx hy
  have bW : ((W : Int) == 0) = false := by simp; omega
  have bW2 : (W : Int) ≠ 0 := by omega
  have bW3 : ¬ W = 0 := by omega
  unfold bsP at HT HF
  generalize bsB W H cs back over t = B at *
  clear hI hI1 h hc hb hn
  go_enter Try.func30, Try.ntmps30
  go_wp2_with fail
  go_loopw [15] (fun yv wr => ∃ (y : Nat) (E : Array Obj) (d : Nat), y ≤ H ∧ yv = .int .i64 y ∧ Hid (∀ y', y' < y → ∀ x, x < W → cs.getD (y' * W + x) 0 = cs.getD (byN H over y' * W + bxN W back t x % W) 0) ∧ wr = extW (w.alloc (.cells #[.int .i64 (G), .int .i64 (W), .int .i64 (H), .slice (some ⟨bb, bo, none⟩) n c] 24)) E d) (fun yv _ => H - (intOf yv).toNat)
  case atStart => exact ⟨0, #[], _, by omega, rfl, Lib.hid fun y' h => absurd h (by omega), extW_zero _⟩
  case round =>
    obtain ⟨y, E0, d0, hy, rfl, HY, rfl⟩ := hrel
    by_cases hyH : y < H
    · have dy : decide ((y : Int) < (H : Int)) = true := by simpa using hyH
      have vy : IntKind.i64.wrap ((y : Int) + 1) = (y : Int) + 1 := IntWalk.i64_in _ (by omega)
      go_wp2_with fail
      go_loopw [20] (fun xv wr => ∃ (x : Nat) (E : Array Obj) (d : Nat), x ≤ W ∧ xv = .int .i64 x ∧ Hid (∀ x', x' < x → cs.getD (y * W + x') 0 = cs.getD (byN H over y * W + bxN W back t x' % W) 0) ∧ wr = extW (w.alloc (.cells #[.int .i64 (G), .int .i64 (W), .int .i64 (H), .slice (some ⟨bb, bo, none⟩) n c] 24)) E d) (fun xv _ => W - (intOf xv).toNat)
      case atStart => exact ⟨0, _, _, by omega, rfl, Lib.hid fun x' h => absurd h (by omega), rfl⟩
      case round =>
        obtain ⟨x, E1, d1, hx, rfl, HX, rfl⟩ := hrel
        by_cases hxW : x < W
        · have dx : decide ((x : Int) < (W : Int)) = true := by simpa using hxW
          have vx : IntKind.i64.wrap ((x : Int) + 1) = (x : Int) + 1 := IntWalk.i64_in _ (by omega)
          have hk : byN H over y < H := Z.by_lt hyH
          obtain ⟨k, hkk⟩ : ∃ k, byN H over y = k := ⟨_, rfl⟩
          obtain ⟨i, hii⟩ : ∃ i, bxN W back t x = i := ⟨_, rfl⟩
          obtain ⟨r, hrr⟩ : ∃ r, i % W = r := ⟨_, rfl⟩
          have hi : i ≤ 128 := by rw [← hii]; unfold bxN; split <;> omega
          have hr : r < W := by rw [← hrr]; exact Nat.mod_lt _ hW1
          rw [hkk] at hk
          obtain ⟨P, hP⟩ : ∃ P, y * W + x = P := ⟨_, rfl⟩
          obtain ⟨Q, hQ⟩ : ∃ Q, k * W + r = Q := ⟨_, rfl⟩
          obtain ⟨yw, hyw⟩ : ∃ P, y * W = P := ⟨_, rfl⟩
          obtain ⟨kw, hkw⟩ : ∃ P, k * W = P := ⟨_, rfl⟩
          have hPn := HP.out y x hyH hxW
          have hQn := HP.out k r hk hr
          have g1 : (y : Int) * (W : Int) = (yw : Int) := by rw [← hyw]; push_cast; rfl
          have g2 : (k : Int) * (W : Int) = (kw : Int) := by rw [← hkw]; push_cast; rfl
          rw [hP] at hPn
          rw [hQ] at hQn
          rw [hyw] at hP
          rw [hkw] at hQ
          have r1 : IntKind.i64.wrap (yw : Int) = (yw : Int) := IntWalk.i64_in _ (by omega)
          have r2 : IntKind.i64.wrap (kw : Int) = (kw : Int) := IntWalk.i64_in _ (by omega)
          have r3 : IntKind.i64.wrap ((yw : Int) + (x : Int)) = (P : Int) := by rw [IntWalk.i64_in _ (by omega)]; omega
          have r4 : IntKind.i64.wrap ((kw : Int) + (r : Int)) = (Q : Int) := by rw [IntWalk.i64_in _ (by omega)]; omega
          have r5 : (i : Int).tmod (W : Int) = (r : Int) := by rw [← hrr]; rfl
          have r6 : IntKind.i64.wrap (r : Int) = (r : Int) := IntWalk.i64_in _ (by omega)
          have c0 := HC.out P hPn
          have c1 := HC.out Q hQn
          obtain ⟨X, hX⟩ : ∃ X, cs.getD P 0 = X := ⟨_, rfl⟩
          obtain ⟨Y, hY⟩ : ∃ X, cs.getD Q 0 = X := ⟨_, rfl⟩
          rw [hX] at c0
          rw [hY] at c1
          have HXY : Hid (cs.getD (y * W + x) 0 = X ∧ cs.getD (byN H over y * W + bxN W back t x % W) 0 = Y) := Lib.hid (by rw [hyw, hP, hX, hkk, hii, hrr, hkw, hQ, hY]; exact ⟨rfl, rfl⟩)
          unfold byN at hkk
          unfold bxN at hii
          clear hX hY hP hQ hyw hkw hrr
          by_cases hXY : X = Y
          · have hne : (X != Y) = false := by simpa using hXY
            have HN : Hid (∀ x', x' < x + 1 → cs.getD (y * W + x') 0 = cs.getD (byN H over y * W + bxN W back t x' % W) 0) := Lib.hid fun x' hx' => by
              by_cases e : x' = x
              · subst e; rw [HXY.out.1, HXY.out.2, hXY]
              · exact HX.out x' (by omega)
            clear HXY HX hXY
            cases back <;> cases over <;> simp only [if_true, if_false, Bool.false_eq_true] at hkk hii
            · subst hkk
              obtain rfl : yw = kw := by have := g1.symm.trans g2; omega
              clear r1 g1
              have s1 : IntKind.i64.wrap ((x : Int) + (t : Int)) = (i : Int) := by rw [IntWalk.i64_in _ (by omega)]; omega
              clear hii
              go_wp2_with fail
              (refine wp_region_ext (by kernel_rfl) (by kernel_rfl) ?_; (repeat (first | ((with_reducible refine ext_step (fun K hK => ?_)); go_simp; first | (refine hK _ ?_; clear hK K) | (apply Exists.intro; refine ⟨fun _ _ => ?_, hK _ ?_⟩; fail; clear hK K)))); refine wpQuiet_nil ?_; intro E d)
              go_wp2
              go_roundw
              case rel => exact ⟨x + 1, _, _, by omega, by go_num, HN, by simp only [extW_extW]; rfl⟩
              case measure => simp [intOf]; omega
            · have s1 : IntKind.i64.wrap ((x : Int) + (t : Int)) = (i : Int) := by rw [IntWalk.i64_in _ (by omega)]; omega
              have s2 : IntKind.i64.wrap ((H : Int) - 1) = (H : Int) - 1 := IntWalk.i64_in _ (by omega)
              have s3 : IntKind.i64.wrap ((H : Int) - 1 - (y : Int)) = (k : Int) := by rw [IntWalk.i64_in _ (by omega)]; omega
              clear hii hkk
              go_wp2_with fail
              (refine wp_region_ext (by kernel_rfl) (by kernel_rfl) ?_; (repeat (first | ((with_reducible refine ext_step (fun K hK => ?_)); go_simp; first | (refine hK _ ?_; clear hK K) | (apply Exists.intro; refine ⟨fun _ _ => ?_, hK _ ?_⟩; fail; clear hK K)))); refine wpQuiet_nil ?_; intro E d)
              go_wp2
              go_roundw
              case rel => exact ⟨x + 1, _, _, by omega, by go_num, HN, by simp only [extW_extW]; rfl⟩
              case measure => simp [intOf]; omega
            · subst hkk
              obtain rfl : yw = kw := by have := g1.symm.trans g2; omega
              clear r1 g1
              have s1 : IntKind.i64.wrap ((t : Int) - (x : Int)) = (t : Int) - (x : Int) := IntWalk.i64_in _ (by omega)
              have s2 : IntKind.i64.wrap ((t : Int) - (x : Int) + (W : Int)) = (i : Int) := by rw [IntWalk.i64_in _ (by omega)]; omega
              clear hii
              go_wp2_with fail
              (refine wp_region_ext (by kernel_rfl) (by kernel_rfl) ?_; (repeat (first | ((with_reducible refine ext_step (fun K hK => ?_)); go_simp; first | (refine hK _ ?_; clear hK K) | (apply Exists.intro; refine ⟨fun _ _ => ?_, hK _ ?_⟩; fail; clear hK K)))); refine wpQuiet_nil ?_; intro E d)
              go_wp2
              go_roundw
              case rel => exact ⟨x + 1, _, _, by omega, by go_num, HN, by simp only [extW_extW]; rfl⟩
              case measure => simp [intOf]; omega
            · have s1 : IntKind.i64.wrap ((t : Int) - (x : Int)) = (t : Int) - (x : Int) := IntWalk.i64_in _ (by omega)
              have s4 : IntKind.i64.wrap ((t : Int) - (x : Int) + (W : Int)) = (i : Int) := by rw [IntWalk.i64_in _ (by omega)]; omega
              have s2 : IntKind.i64.wrap ((H : Int) - 1) = (H : Int) - 1 := IntWalk.i64_in _ (by omega)
              have s3 : IntKind.i64.wrap ((H : Int) - 1 - (y : Int)) = (k : Int) := by rw [IntWalk.i64_in _ (by omega)]; omega
              clear hii hkk
              go_wp2_with fail
              (refine wp_region_ext (by kernel_rfl) (by kernel_rfl) ?_; (repeat (first | ((with_reducible refine ext_step (fun K hK => ?_)); go_simp; first | (refine hK _ ?_; clear hK K) | (apply Exists.intro; refine ⟨fun _ _ => ?_, hK _ ?_⟩; fail; clear hK K)))); refine wpQuiet_nil ?_; intro E d)
              go_wp2
              go_roundw
              case rel => exact ⟨x + 1, _, _, by omega, by go_num, HN, by simp only [extW_extW]; rfl⟩
              case measure => simp [intOf]; omega
          · have hne : (X != Y) = true := by simpa using hXY
            have HV := Lib.hid (HF.out (fun hall => hXY (by have := hall y hyH x hxW; rw [HXY.out.1, HXY.out.2] at this; exact this)))
            clear HXY HX HY HT HF hXY
            cases back <;> cases over <;> simp only [if_true, if_false, Bool.false_eq_true] at hkk hii
            · subst hkk
              obtain rfl : yw = kw := by have := g1.symm.trans g2; omega
              clear r1 g1
              have s1 : IntKind.i64.wrap ((x : Int) + (t : Int)) = (i : Int) := by rw [IntWalk.i64_in _ (by omega)]; omega
              clear hii
              go_wp2_with fail
              (refine wp_region_ext (by kernel_rfl) (by kernel_rfl) ?_; (repeat (first | ((with_reducible refine ext_step (fun K hK => ?_)); go_simp; first | (refine hK _ ?_; clear hK K) | (apply Exists.intro; refine ⟨fun _ _ => ?_, hK _ ?_⟩; fail; clear hK K)))); refine wpQuiet_nil ?_; intro E d)
              go_wp2
              go_ret
              exact ⟨by rw [HV.out]; rfl, (by repeat (first | exact Below.refl _ _ | refine Below.drew ?_ | refine below_drewN ?_ _ | refine Below.alloc ?_ (by first | exact Nat.le_refl _ | (simp; done) | (simp; omega) | omega) _ | refine Below.setCell ?_ (by first | exact Nat.le_refl _ | (simp; done) | (simp; omega) | omega) _ | refine bExtW ?_ (by first | exact Nat.le_refl _ | (simp; done) | (simp; omega) | omega) | refine Below.trans ?_ (Below.mono (by assumption) (by first | exact Nat.le_refl _ | (simp; done) | (simp; omega) | omega))))⟩
            · have s1 : IntKind.i64.wrap ((x : Int) + (t : Int)) = (i : Int) := by rw [IntWalk.i64_in _ (by omega)]; omega
              have s2 : IntKind.i64.wrap ((H : Int) - 1) = (H : Int) - 1 := IntWalk.i64_in _ (by omega)
              have s3 : IntKind.i64.wrap ((H : Int) - 1 - (y : Int)) = (k : Int) := by rw [IntWalk.i64_in _ (by omega)]; omega
              clear hii hkk
              go_wp2_with fail
              (refine wp_region_ext (by kernel_rfl) (by kernel_rfl) ?_; (repeat (first | ((with_reducible refine ext_step (fun K hK => ?_)); go_simp; first | (refine hK _ ?_; clear hK K) | (apply Exists.intro; refine ⟨fun _ _ => ?_, hK _ ?_⟩; fail; clear hK K)))); refine wpQuiet_nil ?_; intro E d)
              go_wp2
              go_ret
              exact ⟨by rw [HV.out]; rfl, (by repeat (first | exact Below.refl _ _ | refine Below.drew ?_ | refine below_drewN ?_ _ | refine Below.alloc ?_ (by first | exact Nat.le_refl _ | (simp; done) | (simp; omega) | omega) _ | refine Below.setCell ?_ (by first | exact Nat.le_refl _ | (simp; done) | (simp; omega) | omega) _ | refine bExtW ?_ (by first | exact Nat.le_refl _ | (simp; done) | (simp; omega) | omega) | refine Below.trans ?_ (Below.mono (by assumption) (by first | exact Nat.le_refl _ | (simp; done) | (simp; omega) | omega))))⟩
            · subst hkk
              obtain rfl : yw = kw := by have := g1.symm.trans g2; omega
              clear r1 g1
              have s1 : IntKind.i64.wrap ((t : Int) - (x : Int)) = (t : Int) - (x : Int) := IntWalk.i64_in _ (by omega)
              have s2 : IntKind.i64.wrap ((t : Int) - (x : Int) + (W : Int)) = (i : Int) := by rw [IntWalk.i64_in _ (by omega)]; omega
              clear hii
              go_wp2_with fail
              (refine wp_region_ext (by kernel_rfl) (by kernel_rfl) ?_; (repeat (first | ((with_reducible refine ext_step (fun K hK => ?_)); go_simp; first | (refine hK _ ?_; clear hK K) | (apply Exists.intro; refine ⟨fun _ _ => ?_, hK _ ?_⟩; fail; clear hK K)))); refine wpQuiet_nil ?_; intro E d)
              go_wp2
              go_ret
              exact ⟨by rw [HV.out]; rfl, (by repeat (first | exact Below.refl _ _ | refine Below.drew ?_ | refine below_drewN ?_ _ | refine Below.alloc ?_ (by first | exact Nat.le_refl _ | (simp; done) | (simp; omega) | omega) _ | refine Below.setCell ?_ (by first | exact Nat.le_refl _ | (simp; done) | (simp; omega) | omega) _ | refine bExtW ?_ (by first | exact Nat.le_refl _ | (simp; done) | (simp; omega) | omega) | refine Below.trans ?_ (Below.mono (by assumption) (by first | exact Nat.le_refl _ | (simp; done) | (simp; omega) | omega))))⟩
            · have s1 : IntKind.i64.wrap ((t : Int) - (x : Int)) = (t : Int) - (x : Int) := IntWalk.i64_in _ (by omega)
              have s4 : IntKind.i64.wrap ((t : Int) - (x : Int) + (W : Int)) = (i : Int) := by rw [IntWalk.i64_in _ (by omega)]; omega
              have s2 : IntKind.i64.wrap ((H : Int) - 1) = (H : Int) - 1 := IntWalk.i64_in _ (by omega)
              have s3 : IntKind.i64.wrap ((H : Int) - 1 - (y : Int)) = (k : Int) := by rw [IntWalk.i64_in _ (by omega)]; omega
              clear hii hkk
              go_wp2_with fail
              (refine wp_region_ext (by kernel_rfl) (by kernel_rfl) ?_; (repeat (first | ((with_reducible refine ext_step (fun K hK => ?_)); go_simp; first | (refine hK _ ?_; clear hK K) | (apply Exists.intro; refine ⟨fun _ _ => ?_, hK _ ?_⟩; fail; clear hK K)))); refine wpQuiet_nil ?_; intro E d)
              go_wp2
              go_ret
              exact ⟨by rw [HV.out]; rfl, (by repeat (first | exact Below.refl _ _ | refine Below.drew ?_ | refine below_drewN ?_ _ | refine Below.alloc ?_ (by first | exact Nat.le_refl _ | (simp; done) | (simp; omega) | omega) _ | refine Below.setCell ?_ (by first | exact Nat.le_refl _ | (simp; done) | (simp; omega) | omega) _ | refine bExtW ?_ (by first | exact Nat.le_refl _ | (simp; done) | (simp; omega) | omega) | refine Below.trans ?_ (Below.mono (by assumption) (by first | exact Nat.le_refl _ | (simp; done) | (simp; omega) | omega))))⟩
        · obtain rfl : x = W := by omega
          have dx : decide ((x : Int) < (x : Int)) = false := by simp
          have HN : Hid (∀ y', y' < y + 1 → ∀ x', x' < x → cs.getD (y' * x + x') 0 = cs.getD (byN H over y' * x + bxN x back t x' % x) 0) := Lib.hid fun y' hy' x' hx' => by
            by_cases e : y' = y
            · subst e; exact HX.out x' hx'
            · exact HY.out y' (by omega) x' hx'
          clear HX HY
          go_wp2
          go_roundw
          case rel => exact ⟨y + 1, _, _, by omega, by go_num, HN, rfl⟩
          case measure => simp [intOf]; omega
    · obtain rfl : y = H := by omega
      have dy : decide ((y : Int) < (y : Int)) = false := by simp
      have HV := Lib.hid (HT.out HY.out)
      clear HT HF HY
      go_wp2
      go_ret
      exact ⟨by rw [HV.out]; rfl, (by repeat (first | exact Below.refl _ _ | refine Below.drew ?_ | refine below_drewN ?_ _ | refine Below.alloc ?_ (by first | exact Nat.le_refl _ | (simp; done) | (simp; omega) | omega) _ | refine Below.setCell ?_ (by first | exact Nat.le_refl _ | (simp; done) | (simp; omega) | omega) _ | refine bExtW ?_ (by first | exact Nat.le_refl _ | (simp; done) | (simp; omega) | omega) | refine Below.trans ?_ (Below.mono (by assumption) (by first | exact Nat.le_refl _ | (simp; done) | (simp; omega) | omega))))⟩
end Go.Proofs.Ytooilennejakhaa

namespace Go.Proofs.Ytooilennejakhaa
open Go.RowKit
set_option linter.unusedVariables false
set_option linter.unusedSimpArgs false
open Z (bsP bsB keP keB)
/-- A chart in a block. -/
def CBx (q : Nat) (G W H : Int) (a : Option Addr) (n c : Nat) (w : World) : Prop :=
  w.rowIs q 24 4 (fun j => if j = 0 then .int .i64 G else if j = 1 then .int .i64 W else if j = 2 then .int .i64 H else .slice a n c)
set_option maxRecDepth 100000 in
set_option maxHeartbeats 8000000 in
theorem kept_ok (G W H n p m q : Nat) (back over : Bool) (a : Option Addr) (c : Nat) (cs : List Int) (w : World) (hI : IsInts w a n cs) (h : ChOk G W H n cs) (hq : CBx q G W H a n c w) (hp : p ≤ m) (hm : m ≤ 64) :
    Calls Try.prog 29 #[.bool back, .bool over, .int .i64 (p), .int .i64 (m), .pointer (some ⟨q, 0, none⟩)] w fun r w' => r = .returned (.bool (keB W H cs back over p m)) ∧ Below w.heap.size w w' := by
  have HS := Lib.hid (fun t w (ht : t ≤ 64) hI => same_ok G W H n t back over a c cs w hI h ht)
  have HI := Lib.hid hI
  have HT : Hid (keP W H cs back over p m → keB W H cs back over p m = true) := Lib.hid fun h => decide_eq_true h
  have HF : Hid (¬ keP W H cs back over p m → keB W H cs back over p m = false) := Lib.hid fun h => decide_eq_false h
  have HB : Hid (∀ t, bsB W H cs back over t = true ↔ bsP W H cs back over t) := Lib.hid fun t => decide_eq_true_iff
  unfold CBx at hq
  have q0 : w.cell? ⟨q, 0, none⟩ = some (.int .i64 (G)) := hq.cell (i := 0) (by omega)
  have q1 : w.cell? ⟨q, 1, none⟩ = some (.int .i64 (W)) := hq.cell (i := 1) (by omega)
  have q2 : w.cell? ⟨q, 2, none⟩ = some (.int .i64 (H)) := hq.cell (i := 2) (by omega)
  have q3 : w.cell? ⟨q, 3, none⟩ = some (.slice a n c) := hq.cell (i := 3) (by omega)
  have lq : LtW q w := hq.lt
  generalize keB W H cs back over p m = B at *
  clear hI h hq
  go_enter Try.func29, Try.ntmps29
  go_wp2_with fail
  go_loopw [10] (fun tv wr => ∃ (t : Nat) (E : Array Obj) (d : Nat), p ≤ t ∧ t ≤ m ∧ tv = .int .i64 t ∧ Hid (∀ u, u < t → p ≤ u → ¬ bsP W H cs back over u) ∧ wr = extW w E d) (fun tv _ => m - (intOf tv).toNat)
  case atStart => exact ⟨p, #[], _, Nat.le_refl _, hp, rfl, Lib.hid fun u h h2 => absurd h (by omega), extW_zero _⟩
  case round =>
    obtain ⟨t, E, d, hpt, htm, rfl, HN, rfl⟩ := hrel
    by_cases hlt : t < m
    · have dt : decide ((t : Int) < (m : Int)) = true := by simpa using hlt
      have vt : IntKind.i64.wrap ((t : Int) + 1) = (t : Int) + 1 := IntWalk.i64_in _ (by omega)
      have HSt := Lib.hid (fun w hI => HS.out t w (by omega) hI)
      have HBt := Lib.hid (HB.out t)
      generalize bsB W H cs back over t = bt at *
      cases bt with
      | true =>
        have HV := Lib.hid (HT.out ⟨t, hlt, hpt, HBt.out.1 rfl⟩)
        clear HT HF HN HBt HB
        (go_wp2_with fail; refine (HSt.out _ (HI.out.below (by repeat (first | exact Below.refl _ _ | refine Below.drew ?_ | refine below_drewN ?_ _ | refine Below.alloc ?_ (by first | exact Nat.le_refl _ | (simp; done) | (simp; omega) | omega) _ | refine Below.setCell ?_ (by first | exact Nat.le_refl _ | (simp; done) | (simp; omega) | omega) _ | refine bExtW ?_ (by first | exact Nat.le_refl _ | (simp; done) | (simp; omega) | omega) | refine Below.trans ?_ (Below.mono (by assumption) (by first | exact Nat.le_refl _ | (simp; done) | (simp; omega) | omega)))))).mono ?_; rintro r w1 ⟨rfl, hb⟩; obtain ⟨E, d, rfl⟩ := bExt hb; clear hb)
        go_wp2
        go_ret
        exact ⟨by rw [HV.out]; rfl, (by repeat (first | exact Below.refl _ _ | refine Below.drew ?_ | refine below_drewN ?_ _ | refine Below.alloc ?_ (by first | exact Nat.le_refl _ | (simp; done) | (simp; omega) | omega) _ | refine Below.setCell ?_ (by first | exact Nat.le_refl _ | (simp; done) | (simp; omega) | omega) _ | refine bExtW ?_ (by first | exact Nat.le_refl _ | (simp; done) | (simp; omega) | omega) | refine Below.trans ?_ (Below.mono (by assumption) (by first | exact Nat.le_refl _ | (simp; done) | (simp; omega) | omega))))⟩
      | false =>
        have HN2 : Hid (∀ u, u < t + 1 → p ≤ u → ¬ bsP W H cs back over u) := Lib.hid fun u h1 h2 h3 => by
          by_cases e : u = t
          · subst e
            have := HBt.out.2 h3
            cases this
          · exact HN.out u (by omega) h2 h3
        clear HN HBt
        (go_wp2_with fail; refine (HSt.out _ (HI.out.below (by repeat (first | exact Below.refl _ _ | refine Below.drew ?_ | refine below_drewN ?_ _ | refine Below.alloc ?_ (by first | exact Nat.le_refl _ | (simp; done) | (simp; omega) | omega) _ | refine Below.setCell ?_ (by first | exact Nat.le_refl _ | (simp; done) | (simp; omega) | omega) _ | refine bExtW ?_ (by first | exact Nat.le_refl _ | (simp; done) | (simp; omega) | omega) | refine Below.trans ?_ (Below.mono (by assumption) (by first | exact Nat.le_refl _ | (simp; done) | (simp; omega) | omega)))))).mono ?_; rintro r w1 ⟨rfl, hb⟩; obtain ⟨E, d, rfl⟩ := bExt hb; clear hb)
        go_wp2
        go_roundw
        case rel => exact ⟨t + 1, _, _, by omega, by omega, by go_num, HN2, by simp only [extW_extW]; rfl⟩
        case measure => simp [intOf]; omega
    · obtain rfl : t = m := by omega
      have dt : decide ((t : Int) < (t : Int)) = false := by simp
      have HV := Lib.hid (HF.out (fun ⟨u, h1, h2, h3⟩ => HN.out u h1 h2 h3))
      clear HT HF HN HB
      go_wp2
      go_ret
      exact ⟨by rw [HV.out]; rfl, (by repeat (first | exact Below.refl _ _ | refine Below.drew ?_ | refine below_drewN ?_ _ | refine Below.alloc ?_ (by first | exact Nat.le_refl _ | (simp; done) | (simp; omega) | omega) _ | refine Below.setCell ?_ (by first | exact Nat.le_refl _ | (simp; done) | (simp; omega) | omega) _ | refine bExtW ?_ (by first | exact Nat.le_refl _ | (simp; done) | (simp; omega) | omega) | refine Below.trans ?_ (Below.mono (by assumption) (by first | exact Nat.le_refl _ | (simp; done) | (simp; omega) | omega))))⟩
end Go.Proofs.Ytooilennejakhaa
