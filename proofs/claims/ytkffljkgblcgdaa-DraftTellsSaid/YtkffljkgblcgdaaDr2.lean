/- Lemmas and contracts of functions (what each call returns, and that it changes nothing that was there) that the proof of a law of this seat uses; each lemma states its own conditions. -/
import Derived.Test.YtkffljkgblcgdaaDrM
import Derived.Test.YtkffljkgblcgdaaDr1
import Derived.Test.YtkffljkgblcgdaaQ1
import Derived.Test.YtkffljkgblcgdaaAl3
namespace Go.Proofs.Ytkffljkgblcgdaa
open Go.RowKit
set_option linter.unusedVariables false
set_option linter.unusedSimpArgs false
open Lo
theorem natI_getN (L : List Nat) (j : Nat) : (natI L).getD j 0 = ((L.getD j 0 : Nat) : Int) := natI_getD L j
theorem natI_len (L : List Nat) : (natI L).length = L.length := by simp [natI]
theorem rgB_nat {B : Int} {L : List Int} (h : rgB B L = true) : ∃ N : List Nat, L = natI N ∧ ∀ x ∈ N, (x : Int) < B := by
  refine ⟨L.map Int.toNat, ?_, fun x hx => ?_⟩
  · unfold natI
    rw [List.map_map]
    apply List.ext_getElem (by simp)
    intro i h1 h2
    have := rgB_at h h1
    rw [show L.getD i 0 = L[i] by simp [List.getD, h1]] at this
    simp only [List.getElem_map, Function.comp_apply]
    omega
  · obtain ⟨z, hz, rfl⟩ := List.mem_map.1 hx
    obtain ⟨j, hj, rfl⟩ := List.getElem_of_mem hz
    have := rgB_at h hj
    rw [show L.getD j 0 = L[j] by simp [List.getD, hj]] at this
    omega
theorem rgB_of {B : Nat} {N : List Nat} (h : ∀ x ∈ N, x < B) : rgB B (natI N) = true := rgB_true fun j hj => by
  rw [natI_len] at hj
  rw [natI_getN]
  have := h _ (getD_memN hj)
  omega
theorem drE_ok {th tr : List Nat} {W H n : Nat} (hW : W ≤ 64) (hH : H ≤ 64) (hn : n = W * H) (h1 : 0 < th.length) (h2 : th.length ≤ 64) (h3 : 0 < tr.length) (h4 : tr.length ≤ 64) (h5 : ∀ x ∈ th, x < W) (h6 : ∀ x ∈ tr, x < H) : drE (natI th) (natI tr) W H n = 0 := by
  unfold drE
  rw [if_neg (by rw [hn, wrT_ok hW hH]; simp), if_neg (by rw [natI_len, natI_len]; omega), rgB_of h5, rgB_of h6]; rfl
theorem drE_zero {th tr : List Int} {W H : Int} {n : Nat} (h : drE th tr W H n = 0) : ∃ (tn rn : List Nat) (W' H' : Nat), th = natI tn ∧ tr = natI rn ∧ W = W' ∧ H = H' ∧ W' ≤ 64 ∧ H' ≤ 64 ∧ n = W' * H' ∧ 0 < tn.length ∧ tn.length ≤ 64 ∧ 0 < rn.length ∧ rn.length ≤ 64 ∧ (∀ x ∈ tn, x < W') ∧ (∀ x ∈ rn, x < H') := by
  unfold drE at h
  by_cases h1 : wrT W H n = 0
  · rw [if_neg (by simpa using h1)] at h
    by_cases h2 : th.length = 0 ∨ 64 < th.length ∨ tr.length = 0 ∨ 64 < tr.length
    · rw [if_pos h2] at h; omega
    · rw [if_neg h2] at h
      by_cases h3 : (rgB W th && rgB H tr) = true
      · simp only [Bool.and_eq_true] at h3
        obtain ⟨tn, rfl, k1⟩ := rgB_nat h3.1
        obtain ⟨rn, rfl, k2⟩ := rgB_nat h3.2
        obtain ⟨W', H', rfl, rfl, k3, k4, k5⟩ := wrT_zero h1
        rw [natI_len, natI_len] at h2
        exact ⟨tn, rn, W', H', rfl, rfl, rfl, rfl, k3, k4, k5, by omega, by omega, by omega, by omega, fun x hx => by have := k1 x hx; omega, fun x hx => by have := k2 x hx; omega⟩
      · rw [if_neg h3] at h; omega
  · rw [if_pos h1] at h; exact absurd h h1
/-- The bits of a drawdown, place by place. -/
def ddF (W nt : Nat) (tie : List Bool) (th tr : List Nat) (p : Nat) : Bool := tie.getD (tr.getD (p / nt) 0 * W + th.getD (p % nt) 0) false
theorem ddF_at {W nt x y : Nat} {tie : List Bool} {th tr : List Nat} (hx : x < nt) : ddF W nt tie th tr (y * nt + x) = tie.getD (tr.getD y 0 * W + th.getD x 0) false := by unfold ddF; rw [dm1 hx, dm2 hx]
theorem dd_bT {W : Nat} {tie : List Bool} {th tr : List Nat} : bT (ddF W th.length tie th tr) (tr.length * th.length) = ddL W tie th tr := by
  refine grid_ext (W := th.length) (H := tr.length) (by rw [bT_len, Nat.mul_comm]) (by unfold ddL; rw [grid_len]) fun y x hy hx => ?_
  have h1 := place_lt' hx hy
  rw [bT_get _ (by rw [Nat.mul_comm tr.length]; exact h1), ddF_at hx]
  unfold ddL
  rw [grid_get hy hx]
def NatsPost (L : List Nat) (w : World) (r : Ending) (w' : World) : Prop := ∃ A C, r = .returned (.slice A L.length C) ∧ IsInts w' A L.length (natI L) ∧ Below w.heap.size w w' ∧ ∀ b o, A = some ⟨b, o, none⟩ → w.heap.size ≤ b
set_option maxRecDepth 100000 in
set_option maxHeartbeats 8000000 in
theorem firsts_any (a : Option Addr) (c : Nat) (L : List Nat) (w : World) (hi : IsInts w a L.length (natI L)) (hl : L.length ≤ 64) :
    Calls Try.prog 52 #[.slice a L.length c] w (NatsPost (frs L L.length) w) := by
  have HI := Lib.hid hi
  clear hi
  obtain ⟨n, hn⟩ : ∃ n, L.length = n := ⟨_, rfl⟩
  rw [hn] at HI hl ⊢
  have HN := Lib.hid hn
  clear hn
  go_enter Try.func52, Try.ntmps52
  go_wp2_with fail
  go_loopw [8, 3] (fun i v wr => ∃ k : Nat, k ≤ n ∧ i = .int .i64 k ∧ wr.ownsRow w.heap.size 3 1 v (frs L k).length (natV (frs L k)) ∧ Below w.heap.size w wr) (fun i _ _ => n - (intOf i).toNat)
  case atStart => exact ⟨0, Nat.zero_le _, rfl, World.ownsRow_nil _ _ _ _, Below.refl _ _⟩
  case round =>
    obtain ⟨k, hk, rfl, hown, hbel⟩ := hrel
    obtain ⟨A, cp, rfl⟩ := own_form hown
    have hfl := frs_len_le L k
    have HO := Lib.hid hown; have HB := Lib.hid hbel
    have hsz := hbel.size
    by_cases hkn : k < n
    · obtain ⟨b, o, rfl, hb, hc⟩ := (HI.out.below hbel).2 (by omega)
      have c0 := hc k hkn
      rw [natI_getN] at c0
      have lb : LtW b wr := hb
      have HF : Hid (frs L (k+1) = if L.getD k 0 = (frs L k).length then frs L k ++ [k] else frs L k) := Lib.hid rfl
      clear hc hb hown hbel
      generalize frs L k = F at *
      generalize L.getD k 0 = x at *
      obtain ⟨fl, hfl2⟩ : ∃ fl, F.length = fl := ⟨_, rfl⟩
      rw [hfl2] at HO hfl HF ⊢
      have HFL := Lib.hid hfl2
      clear hfl2
      by_cases hx : x = fl
      · have hd : ((x : Int) == (fl : Int)) = true := by simp [hx]
        have hd2 : (x == fl) = true := by simp [hx]
        have HF2 := Lib.hid (HF.out.trans (if_pos hx))
        clear hx
        go_wp2_with (at_builtin; refine wpApp okInts' rfl (.tmp 17) (.tmp 19) rfl w.heap.size _ _ _ #[.int .i64 k] rfl HO.out rfl rfl ?_ (by omega) (by omega) hsz ?_)
        · simp [Value.oneCell']
        intro v' w2 hown2 hb2
        rw [← natV_snoc] at hown2
        have HO2 := Lib.hid hown2
        have HB2 := Lib.hid (HB.out.trans hb2)
        clear hown2 hb2 c0
        go_wp2
        go_roundw
        case rel => exact ⟨k + 1, by omega, by go_num, by rw [HF2.out, List.length_append, HFL.out]; exact HO2.out, HB2.out⟩
        case measure => simp [intOf]; omega
      · have hd : ((x : Int) == (fl : Int)) = false := by simp; omega
        have hd2 : (x == fl) = false := by simp [hx]
        have HF2 := Lib.hid (HF.out.trans (if_neg hx))
        clear hx
        go_wp2
        go_roundw
        case rel => exact ⟨k + 1, by omega, by go_num, by rw [HF2.out, HFL.out]; exact HO.out, HB.out⟩
        case measure => simp [intOf]; omega
    · obtain rfl : n = k := by omega
      obtain ⟨A', c', e, hI, hIb⟩ := IsInts.of_natsB hown
      injection e with e1 _ e3
      subst e1 e3
      have HII := Lib.hid hI
      clear hown hbel hI
      generalize frs L n = F at *
      go_wp2
      go_ret
      exact ⟨_, _, rfl, HII.out, HB.out, hIb⟩
end Go.Proofs.Ytkffljkgblcgdaa
