/- Lemmas and contracts of functions (what each call returns, and that it changes nothing that was there) that the proof of a law of this seat uses; each lemma states its own conditions. -/
import Derived.Test.YtooilennejakhaaB01
namespace Go.Proofs.Ytooilennejakhaa.Z
set_option linter.unusedVariables false
set_option linter.unusedSimpArgs false
/-- Where a place goes: along the band, across it. -/
def bxN (W : Nat) (back : Bool) (t x : Nat) : Nat := if back then t + W - x else x + t
def byN (H : Nat) (over : Bool) (y : Nat) : Nat := if over then H - 1 - y else y
/-- Is the band the same, so moved? -/
def bsP (W H : Nat) (cs : List Int) (back over : Bool) (t : Nat) : Prop := ∀ y, y < H → ∀ x, x < W → cs.getD (y * W + x) 0 = cs.getD (byN H over y * W + bxN W back t x % W) 0
instance (W H : Nat) (cs : List Int) (back over : Bool) (t : Nat) : Decidable (bsP W H cs back over t) := by unfold bsP; infer_instance
def bsB (W H : Nat) (cs : List Int) (back over : Bool) (t : Nat) : Bool := decide (bsP W H cs back over t)
/-- By some step? -/
def keP (W H : Nat) (cs : List Int) (back over : Bool) (p q : Nat) : Prop := ∃ t, t < q ∧ p ≤ t ∧ bsP W H cs back over t
instance (W H : Nat) (cs : List Int) (back over : Bool) (p q : Nat) : Decidable (keP W H cs back over p q) := by unfold keP; infer_instance
def keB (W H : Nat) (cs : List Int) (back over : Bool) (p q : Nat) : Bool := decide (keP W H cs back over p q)
def bandV (u tu le gl : Bool) : Int := if u && le then 7 else if u && tu then 6 else if tu then 5 else if u then 4 else if le then 3 else if gl then 2 else 1
/-- The kind of a band. -/
def bandP (W H : Nat) (cs : List Int) : Int := bandV (keB W H cs true false 0 W) (keB W H cs true true 0 W) (keB W H cs false true 0 1) (keB W H cs false true 1 W)
theorem bandV_bd (u tu le gl : Bool) : 1 ≤ bandV u tu le gl ∧ bandV u tu le gl ≤ 7 := by
  cases u <;> cases tu <;> cases le <;> cases gl <;> decide
/-- The colour at a place of the band, that goes on for ever. -/
def cB (W : Nat) (cs : List Int) (x : Int) (y : Nat) : Int := cs.getD (y * W + (x % (W : Int)).toNat) 0
theorem cB_per {W : Nat} {cs : List Int} {x z k : Int} {y : Nat} (h : x = z + k * W) : cB W cs x y = cB W cs z y := by
  unfold cB
  rw [h, Int.add_mul_emod_self_right]
def bxZ (back : Bool) (t x : Int) : Int := if back then t - x else x + t
def smZ (W H : Nat) (cs : List Int) (back over : Bool) (t : Int) : Prop := ∀ y, y < H → ∀ x : Int, cB W cs x y = cB W cs (bxZ back t x) (byN H over y)
theorem emod_nat {W : Nat} (hW : 0 < W) (x : Int) : ∃ r : Nat, r < W ∧ x % (W : Int) = r ∧ ∃ k : Int, x = r + k * W := by
  have h1 := Int.emod_nonneg x (show (W : Int) ≠ 0 by omega)
  have h2 := Int.emod_lt_of_pos x (show (0 : Int) < W by omega)
  refine ⟨(x % (W : Int)).toNat, by omega, by omega, x / (W : Int), ?_⟩
  have := Int.emod_add_mul_ediv x (W : Int)
  rw [Int.mul_comm] at this
  omega
theorem cB_nat {W : Nat} {cs : List Int} {x y : Nat} (hx : x < W) : cB W cs (x : Int) y = cs.getD (y * W + x) 0 := by
  unfold cB
  rw [Int.emod_eq_of_lt (by omega) (by omega)]
  rfl
theorem cB_mod {W : Nat} {cs : List Int} {x y : Nat} : cB W cs (x : Int) y = cs.getD (y * W + x % W) 0 := rfl
theorem bx_cast {W : Nat} {back : Bool} {t x : Nat} {cs : List Int} {y : Nat} (hx : x < W) : cB W cs ((bxN W back t x : Nat) : Int) y = cB W cs (bxZ back t x) y := by
  unfold bxN bxZ
  cases back
  · simp
  · simp only [if_true]
    exact cB_per (k := 1) (by omega)
theorem bsP_iff {W H : Nat} {cs : List Int} {back over : Bool} {t : Nat} (hW : 0 < W) : bsP W H cs back over t ↔ smZ W H cs back over t := by
  unfold bsP smZ
  constructor
  · intro h y hy x
    obtain ⟨r, hr, _, k, hk⟩ := emod_nat hW x
    have := h y hy r hr
    rw [← cB_nat hr, ← cB_mod, bx_cast hr] at this
    rw [cB_per hk, this]
    unfold bxZ
    cases back
    · exact (cB_per (k := k) (by simp; omega)).symm
    · exact (cB_per (k := -k) (by simp only [if_true]; rw [Int.neg_mul]; omega)).symm
  · intro h y hy x hx
    rw [← cB_nat hx, ← cB_mod, bx_cast hx]
    exact h y hy x
theorem smZ_per {W H : Nat} {cs : List Int} {back over : Bool} {t u k : Int} (h : t = u + k * W) : smZ W H cs back over t ↔ smZ W H cs back over u := by
  unfold smZ
  have e : ∀ x y, cB W cs (bxZ back t x) y = cB W cs (bxZ back u x) y := fun x y => cB_per (k := k) (by unfold bxZ; split <;> omega)
  simp only [e]
theorem ke_any {W H : Nat} {cs : List Int} {back over : Bool} (hW : 0 < W) : keP W H cs back over 0 W ↔ ∃ t : Int, smZ W H cs back over t := by
  unfold keP
  constructor
  · rintro ⟨t, _, _, h⟩
    exact ⟨t, (bsP_iff hW).1 h⟩
  · rintro ⟨t, h⟩
    obtain ⟨r, hr, _, k, hk⟩ := emod_nat hW t
    exact ⟨r, hr, by omega, (bsP_iff hW).2 ((smZ_per hk).1 h)⟩
theorem ke_one {W H : Nat} {cs : List Int} {back over : Bool} (hW : 0 < W) : keP W H cs back over 0 1 ↔ smZ W H cs back over 0 := by
  unfold keP
  constructor
  · rintro ⟨t, h1, _, h⟩
    obtain rfl : t = 0 := by omega
    exact (bsP_iff hW).1 h
  · intro h
    exact ⟨0, by omega, by omega, (bsP_iff hW).2 h⟩
theorem ke_more {W H : Nat} {cs : List Int} {back over : Bool} (hW : 0 < W) : keP W H cs back over 1 W ↔ ∃ t : Int, ¬ (W : Int) ∣ t ∧ smZ W H cs back over t := by
  unfold keP
  constructor
  · rintro ⟨t, h1, h2, h⟩
    refine ⟨t, fun hd => ?_, (bsP_iff hW).1 h⟩
    have := Int.emod_eq_zero_of_dvd hd
    rw [Int.emod_eq_of_lt (by omega) (by omega)] at this
    omega
  · rintro ⟨t, hd, h⟩
    obtain ⟨r, hr, hr2, k, hk⟩ := emod_nat hW t
    refine ⟨r, hr, ?_, (bsP_iff hW).2 ((smZ_per hk).1 h)⟩
    by_cases h0 : r = 0
    · exact absurd (Int.dvd_of_emod_eq_zero (by rw [hr2, h0]; rfl)) hd
    · omega
/-- The three ways: begun elsewhere, upside down, backwards. -/
def wxZ (way : Nat) (at_ x : Int) : Int := if way = 0 then x + at_ else if way = 1 then x else -1 - x
def wyN (H way y : Nat) : Nat := if way = 1 then H - 1 - y else y
def tWay (way : Nat) (at_ : Int) (back : Bool) (t : Int) : Int := if way = 0 then (if back then t + 2 * at_ else t) else if way = 1 then t else (if back then -2 - t else -t)
theorem wy_lt {H way y : Nat} (h : y < H) : wyN H way y < H := by unfold wyN; split <;> omega
theorem by_wy {H way y : Nat} {over : Bool} (h : y < H) : wyN H way (byN H over y) = byN H over (wyN H way y) := by
  unfold wyN byN
  cases over <;> (repeat' split) <;> first | rfl | simp_all
theorem wy_wy {H way y : Nat} (h : y < H) : wyN H way (wyN H way y) = y := by unfold wyN; split <;> omega
theorem by_lt {H y : Nat} {over : Bool} (h : y < H) : byN H over y < H := by unfold byN; split <;> omega
theorem way_bx {way : Nat} {at_ t x : Int} {back : Bool} : wxZ way at_ (bxZ back t x) = bxZ back (tWay way at_ back t) (wxZ way at_ x) := by
  unfold wxZ bxZ tWay
  cases back <;> (repeat' split) <;> simp_all <;> omega
theorem sm_way {W H way : Nat} {at_ t : Int} {cs ds : List Int} {back over : Bool} (h : ∀ y, y < H → ∀ x : Int, cB W ds x y = cB W cs (wxZ way at_ x) (wyN H way y)) : smZ W H ds back over t ↔ smZ W H cs back over (tWay way at_ back t) := by
  unfold smZ
  constructor
  · intro k y hy x
    have hx : ∃ z, wxZ way at_ z = x := by
      unfold wxZ
      by_cases h0 : way = 0
      · exact ⟨x - at_, by rw [if_pos h0]; omega⟩
      · by_cases h1 : way = 1
        · exact ⟨x, by rw [if_neg h0, if_pos h1]⟩
        · exact ⟨-1 - x, by rw [if_neg h0, if_neg h1]; omega⟩
    obtain ⟨z, rfl⟩ := hx
    have := k (wyN H way y) (wy_lt hy) z
    rw [h _ (wy_lt hy), h _ (by_lt (wy_lt hy)), by_wy (wy_lt hy), wy_wy hy, way_bx] at this
    exact this
  · intro k y hy x
    have := k (wyN H way y) (wy_lt hy) (wxZ way at_ x)
    rw [h _ hy, h _ (by_lt hy), by_wy hy, way_bx]
    exact this
theorem tWay_on {way : Nat} {at_ : Int} {back : Bool} (u : Int) : ∃ t, tWay way at_ back t = u := by
  unfold tWay
  by_cases h0 : way = 0
  · cases back
    · exact ⟨u, by simp [h0]⟩
    · exact ⟨u - 2 * at_, by simp [h0] <;> omega⟩
  · by_cases h1 : way = 1
    · exact ⟨u, by simp [h1]⟩
    · cases back
      · exact ⟨-u, by simp [h0, h1]⟩
      · exact ⟨-2 - u, by simp [h0, h1] <;> omega⟩
theorem tWay_dvd {way : Nat} {at_ t W : Int} : W ∣ tWay way at_ false t ↔ W ∣ t := by
  unfold tWay
  (repeat' split) <;> simp_all
/-- So moved, a band is of the same kind. -/
theorem band_way {W H way : Nat} {at_ : Int} {cs ds : List Int} (hW : 0 < W) (h : ∀ y, y < H → ∀ x : Int, cB W ds x y = cB W cs (wxZ way at_ x) (wyN H way y)) : bandP W H ds = bandP W H cs := by
  have e1 : ∀ back over, keB W H ds back over 0 W = keB W H cs back over 0 W := fun back over => decide_eq_decide.2 (by
    rw [ke_any hW, ke_any hW]
    constructor
    · rintro ⟨t, k⟩
      exact ⟨_, (sm_way h).1 k⟩
    · rintro ⟨u, k⟩
      obtain ⟨t, rfl⟩ := tWay_on (way := way) (at_ := at_) (back := back) u
      exact ⟨t, (sm_way h).2 k⟩)
  have e2 : keB W H ds false true 0 1 = keB W H cs false true 0 1 := decide_eq_decide.2 (by
    rw [ke_one hW, ke_one hW, sm_way h]
    have : tWay way at_ false 0 = 0 := by unfold tWay; (repeat' split) <;> simp_all
    rw [this])
  have e3 : keB W H ds false true 1 W = keB W H cs false true 1 W := decide_eq_decide.2 (by
    rw [ke_more hW, ke_more hW]
    constructor
    · rintro ⟨t, hd, k⟩
      exact ⟨_, fun e => hd (tWay_dvd.1 e), (sm_way h).1 k⟩
    · rintro ⟨u, hd, k⟩
      obtain ⟨t, rfl⟩ := tWay_on (way := way) (at_ := at_) (back := false) u
      exact ⟨t, fun e => hd (tWay_dvd.2 e), (sm_way h).2 k⟩)
  unfold bandP
  rw [e1, e1, e2, e3]
/-- Which place's colour comes to a place. -/
def wxN (W way at_ x : Nat) : Nat := if way = 0 then (x + at_) % W else if way = 1 then x else W - 1 - x
def wayL (W H way at_ : Nat) (cs : List Int) : List Int := (List.range (W * H)).map fun p => cs.getD (wyN H way (p / W) * W + wxN W way at_ (p % W)) 0
theorem wayL_len (W H way at_ : Nat) (cs : List Int) : (wayL W H way at_ cs).length = W * H := by unfold wayL; simp
theorem bpl_lt {W H x y : Nat} (hx : x < W) (hy : y < H) : y * W + x < W * H := by
  have : (y + 1) * W ≤ H * W := Nat.mul_le_mul_right W (by omega)
  rw [Nat.add_mul, Nat.one_mul] at this
  rw [Nat.mul_comm W H]
  omega
theorem wayL_get {W H way at_ x y : Nat} {cs : List Int} (hx : x < W) (hy : y < H) : (wayL W H way at_ cs).getD (y * W + x) 0 = cs.getD (wyN H way y * W + wxN W way at_ x) 0 := by
  have hW : 0 < W := by omega
  unfold wayL
  rw [List.getD_eq_getElem?_getD, List.getElem?_map, List.getElem?_range (bpl_lt hx hy)]
  have e1 : (y * W + x) / W = y := by rw [Nat.mul_comm, Nat.mul_add_div hW, Nat.div_eq_of_lt hx, Nat.add_zero]
  have e2 : (y * W + x) % W = x := by rw [Nat.mul_comm, Nat.mul_add_mod, Nat.mod_eq_of_lt hx]
  simp only [Option.map_some, Option.getD_some, e1, e2]
theorem wx_lt {W way at_ x : Nat} (hx : x < W) : wxN W way at_ x < W := by
  unfold wxN
  split
  · exact Nat.mod_lt _ (by omega)
  · split <;> omega
theorem wayL_band {W H way at_ : Nat} {cs : List Int} (hW : 0 < W) (hw : way < 3) : bandP W H (wayL W H way at_ cs) = bandP W H cs := by
  refine band_way (way := way) (at_ := at_) hW fun y hy x => ?_
  obtain ⟨r, hr, _, k, hk⟩ := emod_nat hW x
  rw [cB_per hk, cB_nat hr, wayL_get hr hy, ← cB_nat (wx_lt hr)]
  have h3 : way = 0 ∨ way = 1 ∨ way = 2 := by omega
  rcases h3 with rfl | rfl | rfl
  · show cB W cs (((r + at_) % W : Nat) : Int) _ = cB W cs (x + at_) _
    have h1 := Nat.mod_add_div (r + at_) W
    refine (cB_per (k := k + (((r + at_) / W : Nat) : Int)) ?_).symm
    rw [hk]
    generalize (r + at_) % W = u at *
    generalize (r + at_) / W = v at *
    rw [Nat.mul_comm] at h1
    have : ((u : Int) + (v : Int) * (W : Int)) = (r : Int) + at_ := by
      have := congrArg (fun n : Nat => (n : Int)) h1
      push_cast at this
      exact this
    rw [Int.add_mul]
    omega
  · exact (cB_per hk).symm
  · show cB W cs ((W - 1 - r : Nat) : Int) _ = cB W cs (-1 - x) _
    refine (cB_per (k := -k - 1) ?_).symm
    rw [hk, Int.sub_mul, Int.neg_mul]
    omega
theorem wayL_mem {W H way at_ : Nat} {cs : List Int} {P : Int → Prop} (h0 : P 0) (h : ∀ x ∈ cs, P x) : ∀ x ∈ wayL W H way at_ cs, P x := by
  intro x hx
  unfold wayL at hx
  obtain ⟨p, _, rfl⟩ := List.mem_map.1 hx
  rw [List.getD_eq_getElem?_getD]
  cases hg : cs[wyN H way (p / W) * W + wxN W way at_ (p % W)]? with
  | none => exact h0
  | some v => exact h _ (List.mem_of_getElem? hg)
theorem wayL_take {W H way at_ x y : Nat} {cs : List Int} (hx : x < W) (hy : y < H) : (wayL W H way at_ cs).take (y * W + x + 1) = (wayL W H way at_ cs).take (y * W + x) ++ [cs.getD (wyN H way y * W + wxN W way at_ x) 0] := by
  have hl : y * W + x < (wayL W H way at_ cs).length := by rw [wayL_len]; exact bpl_lt hx hy
  rw [List.take_succ_eq_append_getElem hl, ← wayL_get hx hy, List.getD_eq_getElem?_getD, List.getElem?_eq_getElem hl]
  rfl
end Go.Proofs.Ytooilennejakhaa.Z
