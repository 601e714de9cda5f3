/- Lemmas and contracts of functions (what each call returns, and that it changes nothing that was there) that the proof of a law of this seat uses; each lemma states its own conditions. -/
import Derived.Test.YticplgjpflaelaaCd3
import Derived.Deep.DeepCutAuto
namespace Go.Proofs.Yticplgjpflaelaa
open Go.RowKit
set_option linter.unusedVariables false
set_option linter.unusedSimpArgs false
theorem strOf_size (L : List Nat) : (strOf L).size = L.length := by simp [strOf, ByteArray.size]
theorem strOf_bytes (s : ByteArray) : strOf (bytesOf s) = s := bytesOf_inj (bytesOf_str (bytesOf_lt s))
theorem deck_lt {W H : Nat} {bs : List Bool} (hW : W ≤ 64) (hH : H ≤ 64) : ∀ x ∈ deckL W H bs, x < 256 := by
  have hc : ∀ (f y : Nat), ∀ x ∈ cardsL (rowL bs W) H f y, x < 256 := by
    intro f
    induction f with
    | zero => intro y x hx; simp [cardsL] at hx
    | succ f ih =>
      intro y x hx
      unfold cardsL at hx
      by_cases hy : y < H
      · rw [if_pos hy, List.mem_cons, List.mem_append] at hx
        rcases hx with rfl | hx | hx
        · have := (runLen_spec (R := rowL bs W) hy).2.1; omega
        · exact punchL_lt _ x hx
        · exact ih _ x hx
      · rw [if_neg hy] at hx; simp at hx
  intro x hx
  unfold deckL deckB hdrL at hx
  simp only [List.mem_append, List.mem_cons, List.not_mem_nil, or_false] at hx
  rcases hx with ((rfl | rfl | rfl | rfl | rfl) | hx) | rfl
  · omega
  · omega
  · omega
  · omega
  · omega
  · exact hc _ _ x hx
  · exact chk_lt _
theorem deck_len {W H : Nat} {bs : List Bool} (hW : W ≤ 64) (hH : H ≤ 64) : (deckL W H bs).length ≤ 9223372036854775807 := by
  have hc : ∀ (f y : Nat), (cardsL (rowL bs W) H f y).length ≤ f * 9 := by
    intro f
    induction f with
    | zero => intro y; simp [cardsL]
    | succ f ih =>
      intro y
      unfold cardsL
      by_cases hy : y < H
      · rw [if_pos hy, List.length_cons, List.length_append, punchL_len, rowL_len']
        have := ih (y + runLen (rowL bs W) H y)
        omega
      · rw [if_neg hy]; simp
  have := hc (H + 1) 0
  unfold deckL deckB hdrL
  simp only [List.length_append, List.length_cons, List.length_nil]
  omega
theorem deck_sum (W H : Nat) (bs : List Bool) : (deckL W H bs).sum % 256 = 0 := by
  unfold deckL
  rw [List.sum_append]
  simp only [List.sum_cons, List.sum_nil, Nat.add_zero]
  unfold chk
  omega
theorem unp_read {W H : Nat} {bs : List Bool} (hW : W ≤ 64) (hH : H ≤ 64) (hl : bs.length = W * H) : unp (bytesOf (strOf (deckL W H bs))) = (.ok bs, W, H) := by
  rw [bytesOf_str (deck_lt hW hH), unp_deck hW hH hl]
theorem same_selfK (W H : Int) (n : Nat) (bs : List Bool) (a1 a2 : Option Addr) (c1 c2 : Nat) (w : World) (h1 : OkT w a1 n c1 bs) (h2 : OkT w a2 n c2 bs) :
    Calls Try.prog 17 #[.agg #[.int .i64 (W), .int .i64 (H), .slice a1 n c1], .agg #[.int .i64 (W), .int .i64 (H), .slice a2 n c2]] w fun e w' => e = .returned (.bool true) ∧ Below w.heap.size w w' := by
  have := Same_any W H a1 n c1 bs W H a2 n c2 bs w h1.bits h2.bits (Nat.le_trans h1.cap h1.lim) (Nat.le_trans h1.cap h1.lim)
  rwa [decide_eq_true (p := (W = W ∧ H = H ∧ bs = bs)) ⟨rfl, rfl, rfl⟩] at this
set_option maxRecDepth 100000 in
set_option maxHeartbeats 8000000 in
theorem alive9_any (w : World) : Calls Try.prog 18 #[] w fun e w' => e = .returned (.bool true) ∧ Below w.heap.size w w' := by
  have HP := Lib.hid (fun a w (h : OkT w a 1 1 [true]) => Pack_ok 1 1 1 a 1 [true] w h (by omega) (by omega) rfl)
  have HS : Hid ((strOf (deckL 1 1 [true])).size = 8) := Lib.hid (by rw [strOf_size]; decide +kernel)
  unfold StrPost at HP
  generalize strOf (deckL 1 1 [true]) = s0 at *
  have h8 : s0.size = 8 := HS.out
  have HOK : Hid (OkT (w.alloc (.cells #[.bool true] 4)) (some ⟨w.heap.size, 0, none⟩) 1 1 [true]) := Lib.hid ⟨⟨rfl, fun _ => ⟨_, 0, rfl, by simp, fun j hj => by
    obtain rfl : j = 0 := by omega
    simp⟩⟩, by omega, by omega⟩
  go_enter Try.func18, Try.ntmps18
  go_wp2_with fail
  refine (HP.out _ _ HOK.out).mono ?_
  rintro r w1 ⟨rfl, hb⟩
  have hb2 : Below w.heap.size w w1 := Below.trans (by repeat (first | exact Below.refl _ _ | refine Below.drew ?_ | refine below_drewN ?_ _ | refine Below.alloc ?_ (by first | exact Nat.le_refl _ | (simp; done) | (simp; omega) | omega) _ | refine Below.setCell ?_ (by first | exact Nat.le_refl _ | (simp; done) | (simp; omega) | omega) _ | refine bExtW ?_ (by first | exact Nat.le_refl _ | (simp; done) | (simp; omega) | omega) | refine Below.trans ?_ (Below.mono (by assumption) (by first | exact Nat.le_refl _ | (simp; done) | (simp; omega) | omega)))) (hb.mono (by first | exact Nat.le_refl _ | (simp; done) | (simp; omega) | omega))
  go_wp2
  go_ret
  exact ⟨rfl, hb2⟩
set_option maxRecDepth 100000 in
set_option maxHeartbeats 8000000 in
theorem turn_bad (W H : Int) (a : Option Addr) (n c : Nat) (s : ByteArray) (w : World) (h1 : (-9223372036854775808 ≤ W ∧ W ≤ 9223372036854775807)) (h2 : (-9223372036854775808 ≤ H ∧ H ≤ 9223372036854775807)) (h3 : n ≤ 9223372036854775807) (he : wrT W H n ≠ 0) (hs : s.size ≤ 9223372036854775807) :
    Calls Try.prog 4 #[.agg #[.int .i64 (W), .int .i64 (H), .slice a n c], .string s] w fun e w' => e = .returned (.bool true) ∧ Below w.heap.size w w' := by
  have KB := Lib.hid (fun w => Pack_bad W H a n c w h1 h2 h3 he)
  have t1 : (wrT W H n == 0) = false := by simpa using he
  unfold StrPost at KB
  clear h1 h2 h3 he
  generalize wrT W H n = q at *
  generalize strOf [] = s0 at *
  cases hu : unp (bytesOf s) with
  | mk res WH2 =>
    obtain ⟨W2, H2⟩ := WH2
    cases res with
    | bad p =>
      have KU : Hid (∀ w, Calls Try.prog 15 #[.string s] w fun r w' => r = .returned (.tuple #[.agg #[.int .i64 (0), .int .i64 (0), .slice none 0 0], .agg #[.int .i64 (2), .int .i64 (p)]]) ∧ Below w.heap.size w w') := Lib.hid fun w => (Unpack_any s w hs).mono fun e w' h => by
        unfold UnpPost at h
        rw [hu] at h
        exact h
      clear hu hs
      go_enter Try.func4, Try.ntmps4; (go_wp2_with fail; refine (alive9_any _).mono ?_; rintro r w1 ⟨rfl, hb⟩; obtain ⟨E, d, rfl⟩ := bExt hb; clear hb); (go_wp2_with fail; refine (KB.out _).mono ?_; rintro r w1 ⟨rfl, hb⟩; obtain ⟨E, d, rfl⟩ := bExt hb; clear hb)
      (go_wp2_with fail; refine (KU.out _).mono ?_; rintro r w1 ⟨rfl, hb⟩; obtain ⟨E, d, rfl⟩ := bExt hb; clear hb)
      go_wp2
      go_ret
      exact ⟨rfl, (by repeat (first | exact Below.refl _ _ | refine Below.drew ?_ | refine below_drewN ?_ _ | refine Below.alloc ?_ (by first | exact Nat.le_refl _ | (simp; done) | (simp; omega) | omega) _ | refine Below.setCell ?_ (by first | exact Nat.le_refl _ | (simp; done) | (simp; omega) | omega) _ | refine bExtW ?_ (by first | exact Nat.le_refl _ | (simp; done) | (simp; omega) | omega) | refine Below.trans ?_ (Below.mono (by assumption) (by first | exact Nat.le_refl _ | (simp; done) | (simp; omega) | omega))))⟩
    | ok bits =>
      obtain ⟨g1, g2, g3, g4⟩ := unp_ok hu
      have HSE : Hid (strOf (deckL W2 H2 bits) = s) := Lib.hid (by rw [← g4, strOf_bytes])
      obtain ⟨nb, hnb⟩ : ∃ nb, bits.length = nb := ⟨_, rfl⟩
      have KU : Hid (∀ w, Calls Try.prog 15 #[.string s] w fun r w' => ∃ A C, r = .returned (.tuple #[.agg #[.int .i64 (W2), .int .i64 (H2), .slice A nb C], .agg #[.int .i64 (0), .int .i64 (0)]]) ∧ OkT w' A nb C bits ∧ Below w.heap.size w w') := Lib.hid fun w => (Unpack_any s w hs).mono fun e w' h => by
        unfold UnpPost at h
        rw [hu] at h
        obtain ⟨⟨A, C, h1, h2⟩, h3⟩ := h
        rw [hnb] at h1 h2
        exact ⟨A, C, h1, h2, h3⟩
      have KP : Hid (∀ A C w, OkT w A nb C bits → Calls Try.prog 13 #[.agg #[.int .i64 (W2), .int .i64 (H2), .slice A nb C]] w fun r w' => r = .returned (.tuple #[.string s, .int .i64 (0)]) ∧ Below w.heap.size w w') := Lib.hid fun A C w h => (Pack_ok W2 H2 nb A C bits w h g1 g2 (by omega)).mono fun e w' h => by
        unfold StrPost at h
        rw [HSE.out] at h
        exact h
      clear hu hs g1 g2 g3 g4 hnb HSE
      go_enter Try.func4, Try.ntmps4; (go_wp2_with fail; refine (alive9_any _).mono ?_; rintro r w1 ⟨rfl, hb⟩; obtain ⟨E, d, rfl⟩ := bExt hb; clear hb); (go_wp2_with fail; refine (KB.out _).mono ?_; rintro r w1 ⟨rfl, hb⟩; obtain ⟨E, d, rfl⟩ := bExt hb; clear hb)
      go_wp2_with fail
      refine (KU.out _).mono ?_
      rintro r w9 ⟨A9, C9, rfl, hT9, hb9⟩
      obtain ⟨E9, d9, rfl⟩ := bExt hb9
      have HT9 := Lib.hid hT9
      clear hb9 hT9
      (go_wp2_with fail; refine (KP.out A9 C9 _ (HT9.out.below (by repeat (first | exact Below.refl _ _ | refine Below.drew ?_ | refine below_drewN ?_ _ | refine Below.alloc ?_ (by first | exact Nat.le_refl _ | (simp; done) | (simp; omega) | omega) _ | refine Below.setCell ?_ (by first | exact Nat.le_refl _ | (simp; done) | (simp; omega) | omega) _ | refine bExtW ?_ (by first | exact Nat.le_refl _ | (simp; done) | (simp; omega) | omega) | refine Below.trans ?_ (Below.mono (by assumption) (by first | exact Nat.le_refl _ | (simp; done) | (simp; omega) | omega)))))).mono ?_; rintro r w1 ⟨rfl, hb⟩; obtain ⟨E, d, rfl⟩ := bExt hb; clear hb)
      go_wp2
      go_ret
      exact ⟨rfl, (by repeat (first | exact Below.refl _ _ | refine Below.drew ?_ | refine below_drewN ?_ _ | refine Below.alloc ?_ (by first | exact Nat.le_refl _ | (simp; done) | (simp; omega) | omega) _ | refine Below.setCell ?_ (by first | exact Nat.le_refl _ | (simp; done) | (simp; omega) | omega) _ | refine bExtW ?_ (by first | exact Nat.le_refl _ | (simp; done) | (simp; omega) | omega) | refine Below.trans ?_ (Below.mono (by assumption) (by first | exact Nat.le_refl _ | (simp; done) | (simp; omega) | omega))))⟩
set_option maxRecDepth 100000 in
set_option maxHeartbeats 8000000 in
theorem turn_ok (W H n : Nat) (a : Option Addr) (c : Nat) (bs : List Bool) (s : ByteArray) (w : World) (hT : OkT w a n c bs) (hW : W ≤ 64) (hH : H ≤ 64) (hn : n = W * H) (hs : s.size ≤ 9223372036854775807) :
    Calls Try.prog 4 #[.agg #[.int .i64 (W), .int .i64 (H), .slice a n c], .string s] w fun e w' => e = .returned (.bool true) ∧ Below w.heap.size w w' := by
  have hl : bs.length = W * H := by rw [hT.bits.1, hn]
  have KB := Lib.hid (fun w h => Pack_ok W H n a c bs w h hW hH hn)
  have HU := unp_read hW hH hl
  have hsz : (strOf (deckL W H bs)).size ≤ 9223372036854775807 := by rw [strOf_size]; exact deck_len hW hH
  have hbl : bs.length = n := by omega
  have KR : Hid (∀ w, Calls Try.prog 15 #[.string (strOf (deckL W H bs))] w fun r w' => ∃ A C, r = .returned (.tuple #[.agg #[.int .i64 (W), .int .i64 (H), .slice A n C], .agg #[.int .i64 (0), .int .i64 (0)]]) ∧ OkT w' A n C bs ∧ Below w.heap.size w w') := Lib.hid fun w => (Unpack_any _ w hsz).mono fun e w' h => by
    unfold UnpPost at h
    rw [HU] at h
    obtain ⟨⟨A, C, h1, h2⟩, h3⟩ := h
    rw [hbl] at h1 h2
    exact ⟨A, C, h1, h2, h3⟩
  unfold StrPost at KB
  have HT := Lib.hid hT
  clear HU hsz hbl hl hT hW hH hn
  generalize strOf (deckL W H bs) = s0 at *
  cases hu : unp (bytesOf s) with
  | mk res WH2 =>
    obtain ⟨W2, H2⟩ := WH2
    cases res with
    | bad p =>
      have KU : Hid (∀ w, Calls Try.prog 15 #[.string s] w fun r w' => r = .returned (.tuple #[.agg #[.int .i64 (0), .int .i64 (0), .slice none 0 0], .agg #[.int .i64 (2), .int .i64 (p)]]) ∧ Below w.heap.size w w') := Lib.hid fun w => (Unpack_any s w hs).mono fun e w' h => by
        unfold UnpPost at h
        rw [hu] at h
        exact h
      clear hu hs
      go_enter Try.func4, Try.ntmps4; (go_wp2_with fail; refine (alive9_any _).mono ?_; rintro r w1 ⟨rfl, hb⟩; obtain ⟨E, d, rfl⟩ := bExt hb; clear hb); (go_wp2_with fail; refine (KB.out _ (HT.out.below (by repeat (first | exact Below.refl _ _ | refine Below.drew ?_ | refine below_drewN ?_ _ | refine Below.alloc ?_ (by first | exact Nat.le_refl _ | (simp; done) | (simp; omega) | omega) _ | refine Below.setCell ?_ (by first | exact Nat.le_refl _ | (simp; done) | (simp; omega) | omega) _ | refine bExtW ?_ (by first | exact Nat.le_refl _ | (simp; done) | (simp; omega) | omega) | refine Below.trans ?_ (Below.mono (by assumption) (by first | exact Nat.le_refl _ | (simp; done) | (simp; omega) | omega)))))).mono ?_; rintro r w1 ⟨rfl, hb⟩; obtain ⟨E, d, rfl⟩ := bExt hb; clear hb); (go_wp2_with fail; refine (KR.out _).mono ?_; rintro r w8 ⟨A8, C8, rfl, hT8, hb8⟩; obtain ⟨E8, d8, rfl⟩ := bExt hb8; have HT8 := Lib.hid hT8; clear hb8 hT8); (go_wp2_with fail; refine (same_selfK W H n bs A8 a C8 c _ (HT8.out.below (by repeat (first | exact Below.refl _ _ | refine Below.drew ?_ | refine below_drewN ?_ _ | refine Below.alloc ?_ (by first | exact Nat.le_refl _ | (simp; done) | (simp; omega) | omega) _ | refine Below.setCell ?_ (by first | exact Nat.le_refl _ | (simp; done) | (simp; omega) | omega) _ | refine bExtW ?_ (by first | exact Nat.le_refl _ | (simp; done) | (simp; omega) | omega) | refine Below.trans ?_ (Below.mono (by assumption) (by first | exact Nat.le_refl _ | (simp; done) | (simp; omega) | omega))))) (HT.out.below (by repeat (first | exact Below.refl _ _ | refine Below.drew ?_ | refine below_drewN ?_ _ | refine Below.alloc ?_ (by first | exact Nat.le_refl _ | (simp; done) | (simp; omega) | omega) _ | refine Below.setCell ?_ (by first | exact Nat.le_refl _ | (simp; done) | (simp; omega) | omega) _ | refine bExtW ?_ (by first | exact Nat.le_refl _ | (simp; done) | (simp; omega) | omega) | refine Below.trans ?_ (Below.mono (by assumption) (by first | exact Nat.le_refl _ | (simp; done) | (simp; omega) | omega)))))).mono ?_; rintro r w1 ⟨rfl, hb⟩; obtain ⟨E, d, rfl⟩ := bExt hb; clear hb)
      (go_wp2_with fail; refine (KU.out _).mono ?_; rintro r w1 ⟨rfl, hb⟩; obtain ⟨E, d, rfl⟩ := bExt hb; clear hb)
      go_wp2
      go_ret
      exact ⟨rfl, (by repeat (first | exact Below.refl _ _ | refine Below.drew ?_ | refine below_drewN ?_ _ | refine Below.alloc ?_ (by first | exact Nat.le_refl _ | (simp; done) | (simp; omega) | omega) _ | refine Below.setCell ?_ (by first | exact Nat.le_refl _ | (simp; done) | (simp; omega) | omega) _ | refine bExtW ?_ (by first | exact Nat.le_refl _ | (simp; done) | (simp; omega) | omega) | refine Below.trans ?_ (Below.mono (by assumption) (by first | exact Nat.le_refl _ | (simp; done) | (simp; omega) | omega))))⟩
    | ok bits =>
      obtain ⟨g1, g2, g3, g4⟩ := unp_ok hu
      have HSE : Hid (strOf (deckL W2 H2 bits) = s) := Lib.hid (by rw [← g4, strOf_bytes])
      obtain ⟨nb, hnb⟩ : ∃ nb, bits.length = nb := ⟨_, rfl⟩
      have KU : Hid (∀ w, Calls Try.prog 15 #[.string s] w fun r w' => ∃ A C, r = .returned (.tuple #[.agg #[.int .i64 (W2), .int .i64 (H2), .slice A nb C], .agg #[.int .i64 (0), .int .i64 (0)]]) ∧ OkT w' A nb C bits ∧ Below w.heap.size w w') := Lib.hid fun w => (Unpack_any s w hs).mono fun e w' h => by
        unfold UnpPost at h
        rw [hu] at h
        obtain ⟨⟨A, C, h1, h2⟩, h3⟩ := h
        rw [hnb] at h1 h2
        exact ⟨A, C, h1, h2, h3⟩
      have KP : Hid (∀ A C w, OkT w A nb C bits → Calls Try.prog 13 #[.agg #[.int .i64 (W2), .int .i64 (H2), .slice A nb C]] w fun r w' => r = .returned (.tuple #[.string s, .int .i64 (0)]) ∧ Below w.heap.size w w') := Lib.hid fun A C w h => (Pack_ok W2 H2 nb A C bits w h g1 g2 (by omega)).mono fun e w' h => by
        unfold StrPost at h
        rw [HSE.out] at h
        exact h
      clear hu hs g1 g2 g3 g4 hnb HSE
      go_enter Try.func4, Try.ntmps4; (go_wp2_with fail; refine (alive9_any _).mono ?_; rintro r w1 ⟨rfl, hb⟩; obtain ⟨E, d, rfl⟩ := bExt hb; clear hb); (go_wp2_with fail; refine (KB.out _ (HT.out.below (by repeat (first | exact Below.refl _ _ | refine Below.drew ?_ | refine below_drewN ?_ _ | refine Below.alloc ?_ (by first | exact Nat.le_refl _ | (simp; done) | (simp; omega) | omega) _ | refine Below.setCell ?_ (by first | exact Nat.le_refl _ | (simp; done) | (simp; omega) | omega) _ | refine bExtW ?_ (by first | exact Nat.le_refl _ | (simp; done) | (simp; omega) | omega) | refine Below.trans ?_ (Below.mono (by assumption) (by first | exact Nat.le_refl _ | (simp; done) | (simp; omega) | omega)))))).mono ?_; rintro r w1 ⟨rfl, hb⟩; obtain ⟨E, d, rfl⟩ := bExt hb; clear hb); (go_wp2_with fail; refine (KR.out _).mono ?_; rintro r w8 ⟨A8, C8, rfl, hT8, hb8⟩; obtain ⟨E8, d8, rfl⟩ := bExt hb8; have HT8 := Lib.hid hT8; clear hb8 hT8); (go_wp2_with fail; refine (same_selfK W H n bs A8 a C8 c _ (HT8.out.below (by repeat (first | exact Below.refl _ _ | refine Below.drew ?_ | refine below_drewN ?_ _ | refine Below.alloc ?_ (by first | exact Nat.le_refl _ | (simp; done) | (simp; omega) | omega) _ | refine Below.setCell ?_ (by first | exact Nat.le_refl _ | (simp; done) | (simp; omega) | omega) _ | refine bExtW ?_ (by first | exact Nat.le_refl _ | (simp; done) | (simp; omega) | omega) | refine Below.trans ?_ (Below.mono (by assumption) (by first | exact Nat.le_refl _ | (simp; done) | (simp; omega) | omega))))) (HT.out.below (by repeat (first | exact Below.refl _ _ | refine Below.drew ?_ | refine below_drewN ?_ _ | refine Below.alloc ?_ (by first | exact Nat.le_refl _ | (simp; done) | (simp; omega) | omega) _ | refine Below.setCell ?_ (by first | exact Nat.le_refl _ | (simp; done) | (simp; omega) | omega) _ | refine bExtW ?_ (by first | exact Nat.le_refl _ | (simp; done) | (simp; omega) | omega) | refine Below.trans ?_ (Below.mono (by assumption) (by first | exact Nat.le_refl _ | (simp; done) | (simp; omega) | omega)))))).mono ?_; rintro r w1 ⟨rfl, hb⟩; obtain ⟨E, d, rfl⟩ := bExt hb; clear hb)
      go_wp2_with fail
      refine (KU.out _).mono ?_
      rintro r w9 ⟨A9, C9, rfl, hT9, hb9⟩
      obtain ⟨E9, d9, rfl⟩ := bExt hb9
      have HT9 := Lib.hid hT9
      clear hb9 hT9
      (go_wp2_with fail; refine (KP.out A9 C9 _ (HT9.out.below (by repeat (first | exact Below.refl _ _ | refine Below.drew ?_ | refine below_drewN ?_ _ | refine Below.alloc ?_ (by first | exact Nat.le_refl _ | (simp; done) | (simp; omega) | omega) _ | refine Below.setCell ?_ (by first | exact Nat.le_refl _ | (simp; done) | (simp; omega) | omega) _ | refine bExtW ?_ (by first | exact Nat.le_refl _ | (simp; done) | (simp; omega) | omega) | refine Below.trans ?_ (Below.mono (by assumption) (by first | exact Nat.le_refl _ | (simp; done) | (simp; omega) | omega)))))).mono ?_; rintro r w1 ⟨rfl, hb⟩; obtain ⟨E, d, rfl⟩ := bExt hb; clear hb)
      go_wp2
      go_ret
      exact ⟨rfl, (by repeat (first | exact Below.refl _ _ | refine Below.drew ?_ | refine below_drewN ?_ _ | refine Below.alloc ?_ (by first | exact Nat.le_refl _ | (simp; done) | (simp; omega) | omega) _ | refine Below.setCell ?_ (by first | exact Nat.le_refl _ | (simp; done) | (simp; omega) | omega) _ | refine bExtW ?_ (by first | exact Nat.le_refl _ | (simp; done) | (simp; omega) | omega) | refine Below.trans ?_ (Below.mono (by assumption) (by first | exact Nat.le_refl _ | (simp; done) | (simp; omega) | omega))))⟩
theorem turn_walk (W H : Int) (a : Option Addr) (n c : Nat) (bs : List Bool) (s : ByteArray) (w : World) (hT : OkT w a n c bs) (h1 : (-9223372036854775808 ≤ W ∧ W ≤ 9223372036854775807)) (h2 : (-9223372036854775808 ≤ H ∧ H ≤ 9223372036854775807)) (hs : s.size ≤ 9223372036854775807) :
    Calls Try.prog 4 #[.agg #[.int .i64 (W), .int .i64 (H), .slice a n c], .string s] w fun e w' => e = .returned (.bool true) ∧ Below w.heap.size w w' := by
  by_cases hw : wrT W H n = 0
  · obtain ⟨W', H', rfl, rfl, hW, hH, hn⟩ := wrT_zero hw
    exact turn_ok W' H' n a c bs s w hT hW hH hn hs
  · exact turn_bad W H a n c s w h1 h2 (Nat.le_trans hT.cap hT.lim) hw hs
/-- '[]byte(s)', whose bytes may be written. -/
theorem strBytes2 (S : ByteArray) : ∃ (capF : World → Nat) (bwF : World → World), (∀ w : World, (convert 9 35 (.string S)).run Try.prog w = .ok (.slice (some ⟨w.heap.size, 0, none⟩) S.size (capF w)) (bwF w)) ∧
    ∀ w : World, Below w.heap.size w (bwF w) ∧ (bwF w).heap.size = w.heap.size + 1 ∧ (∀ j, j < S.size → (bwF w).cell? ⟨w.heap.size, j, none⟩ = some (.int .u8 ((bytesOf S).getD j 0 : Nat)) ∧ (bwF w).frozen? ⟨w.heap.size, j, none⟩ = false) := by
  refine ⟨fun w => grownCap w S.size 0 5, fun w => Go.Lib.bytesWorld w 5 S, fun w => Go.Lib.run_convert_string_bytes w 9 35 5 S Try.underlying9 Try.underlying35 Try.underlying5, fun w => ⟨⟨rfl, rfl, rfl, ?_, fun k hk => Go.Lib.bytesWorld_at_old w 5 S k hk⟩, Go.Lib.bytesWorld_size w 5 S, fun j hj => ⟨?_, ?_⟩⟩⟩
  · show w.heap.size ≤ (Go.Lib.bytesWorld w 5 S).heap.size
    rw [Go.Lib.bytesWorld_size]; omega
  · show (Go.Lib.bytesWorld w 5 S).cell? _ = _
    rw [Go.Lib.bytesWorld_cell w 5 S j hj]
    refine congrArg (fun x : Nat => some (Value.int .u8 (x : Int))) ?_
    unfold bytesOf
    rw [List.getD_eq_getElem?_getD, List.getD_eq_getElem?_getD, List.getElem?_map]
    have hjl : j < S.data.toList.length := by rw [Array.length_toList]; exact hj
    rw [List.getElem?_eq_getElem hjl]
    rfl
  · show (Go.Lib.bytesWorld w 5 S).frozen? _ = _
    have h1 := Go.Lib.bytesWorld_at_new w 5 S
    have h2 : S.size ≤ (Go.Lib.bytesCells w 5 S).size := by
      unfold Go.Lib.bytesCells
      rw [Array.size_append, Array.size_map]
      exact Nat.le_add_right _ _
    unfold World.frozen?
    simp only [h1]
    simp
    omega
/-- Where one byte of a deck is another one. -/
theorem set_sum {L : List Nat} {k x : Nat} (hk : k < L.length) : (L.set k x).sum + L.getD k 0 = L.sum + x := by
  induction L generalizing k with
  | nil => simp at hk
  | cons y L ih =>
    cases k with
    | zero => simp; omega
    | succ k =>
      have := ih (k := k) (by simpa using hk)
      simp only [List.set_cons_succ, List.sum_cons, List.getD_cons_succ]
      omega
theorem wrong_byte {W H : Nat} {bs : List Bool} {k b : Nat} (hk : k < (deckL W H bs).length) (h1 : 1 ≤ b) (h2 : b ≤ 255) : ∃ p W2 H2, unp ((deckL W H bs).set k (((deckL W H bs).getD k 0 + b) % 256)) = (.bad p, W2, H2) := by
  cases hu : unp ((deckL W H bs).set k (((deckL W H bs).getD k 0 + b) % 256)) with
  | mk res WH =>
  obtain ⟨W2, H2⟩ := WH
  cases res with
  | bad p => exact ⟨p, W2, H2, rfl⟩
  | ok bits =>
    exfalso
    obtain ⟨_, _, _, h3⟩ := unp_ok hu
    have h4 := deck_sum W2 H2 bits
    rw [← h3] at h4
    have h5 := set_sum (x := ((deckL W H bs).getD k 0 + b) % 256) hk
    have h6 := deck_sum W H bs
    omega
set_option maxRecDepth 100000 in
set_option maxHeartbeats 8000000 in
theorem check_bad (W H : Int) (a : Option Addr) (n c : Nat) (at_ by_ : Int) (w : World) (h1 : (-9223372036854775808 ≤ W ∧ W ≤ 9223372036854775807)) (h2 : (-9223372036854775808 ≤ H ∧ H ≤ 9223372036854775807)) (h3 : n ≤ 9223372036854775807) (he : wrT W H n ≠ 0) :
    Calls Try.prog 5 #[.agg #[.int .i64 (W), .int .i64 (H), .slice a n c], .int .i64 (at_), .int .i64 (by_)] w fun e w' => e = .returned (.bool true) ∧ Below w.heap.size w w' := by
  have KB := Lib.hid (fun w => Pack_bad W H a n c w h1 h2 h3 he)
  have t1 : (wrT W H n != 0) = true := by simpa using he
  unfold StrPost at KB
  clear h1 h2 h3 he
  generalize wrT W H n = q at *
  generalize strOf [] = s0 at *
  go_enter Try.func5, Try.ntmps5
  (go_wp2_with fail; refine (alive9_any _).mono ?_; rintro r w1 ⟨rfl, hb⟩; obtain ⟨E, d, rfl⟩ := bExt hb; clear hb)
  (go_wp2_with fail; refine (KB.out _).mono ?_; rintro r w1 ⟨rfl, hb⟩; obtain ⟨E, d, rfl⟩ := bExt hb; clear hb)
  go_wp2
  go_ret
  exact ⟨rfl, (by repeat (first | exact Below.refl _ _ | refine Below.drew ?_ | refine below_drewN ?_ _ | refine Below.alloc ?_ (by first | exact Nat.le_refl _ | (simp; done) | (simp; omega) | omega) _ | refine Below.setCell ?_ (by first | exact Nat.le_refl _ | (simp; done) | (simp; omega) | omega) _ | refine bExtW ?_ (by first | exact Nat.le_refl _ | (simp; done) | (simp; omega) | omega) | refine Below.trans ?_ (Below.mono (by assumption) (by first | exact Nat.le_refl _ | (simp; done) | (simp; omega) | omega))))⟩
set_option maxRecDepth 100000 in
set_option maxHeartbeats 8000000 in
theorem check_out (W H n : Nat) (a : Option Addr) (c : Nat) (bs : List Bool) (at_ by_ : Int) (w : World) (hT : OkT w a n c bs) (hW : W ≤ 64) (hH : H ≤ 64) (hn : n = W * H) (ho : at_ < 0 ∨ (deckL W H bs).length ≤ at_ ∨ by_ < 1 ∨ 255 < by_) :
    Calls Try.prog 5 #[.agg #[.int .i64 (W), .int .i64 (H), .slice a n c], .int .i64 (at_), .int .i64 (by_)] w fun e w' => e = .returned (.bool true) ∧ Below w.heap.size w w' := by
  have KB := Lib.hid (fun w h => Pack_ok W H n a c bs w h hW hH hn)
  have hsz : (strOf (deckL W H bs)).size = (deckL W H bs).length := strOf_size _
  unfold StrPost at KB
  have HT := Lib.hid hT
  clear hT hW hH hn
  rw [← hsz] at ho
  clear hsz
  generalize strOf (deckL W H bs) = s0 at *
  go_enter Try.func5, Try.ntmps5
  (go_wp2_with fail; refine (alive9_any _).mono ?_; rintro r w1 ⟨rfl, hb⟩; obtain ⟨E, d, rfl⟩ := bExt hb; clear hb)
  (go_wp2_with fail; refine (KB.out _ (HT.out.below (by repeat (first | exact Below.refl _ _ | refine Below.drew ?_ | refine below_drewN ?_ _ | refine Below.alloc ?_ (by first | exact Nat.le_refl _ | (simp; done) | (simp; omega) | omega) _ | refine Below.setCell ?_ (by first | exact Nat.le_refl _ | (simp; done) | (simp; omega) | omega) _ | refine bExtW ?_ (by first | exact Nat.le_refl _ | (simp; done) | (simp; omega) | omega) | refine Below.trans ?_ (Below.mono (by assumption) (by first | exact Nat.le_refl _ | (simp; done) | (simp; omega) | omega)))))).mono ?_; rintro r w1 ⟨rfl, hb⟩; obtain ⟨E, d, rfl⟩ := bExt hb; clear hb)
  by_cases c1 : at_ < 0
  · go_wp2
    go_ret
    exact ⟨rfl, (by repeat (first | exact Below.refl _ _ | refine Below.drew ?_ | refine below_drewN ?_ _ | refine Below.alloc ?_ (by first | exact Nat.le_refl _ | (simp; done) | (simp; omega) | omega) _ | refine Below.setCell ?_ (by first | exact Nat.le_refl _ | (simp; done) | (simp; omega) | omega) _ | refine bExtW ?_ (by first | exact Nat.le_refl _ | (simp; done) | (simp; omega) | omega) | refine Below.trans ?_ (Below.mono (by assumption) (by first | exact Nat.le_refl _ | (simp; done) | (simp; omega) | omega))))⟩
  · by_cases c2 : (s0.size : Int) ≤ at_
    · have d1 : decide (at_ < 0) = false := by simpa using c1
      go_wp2
      go_ret
      exact ⟨rfl, (by repeat (first | exact Below.refl _ _ | refine Below.drew ?_ | refine below_drewN ?_ _ | refine Below.alloc ?_ (by first | exact Nat.le_refl _ | (simp; done) | (simp; omega) | omega) _ | refine Below.setCell ?_ (by first | exact Nat.le_refl _ | (simp; done) | (simp; omega) | omega) _ | refine bExtW ?_ (by first | exact Nat.le_refl _ | (simp; done) | (simp; omega) | omega) | refine Below.trans ?_ (Below.mono (by assumption) (by first | exact Nat.le_refl _ | (simp; done) | (simp; omega) | omega))))⟩
    · by_cases c3 : by_ < 1
      · have d1 : decide (at_ < 0) = false := by simpa using c1
        have d2 : decide ((s0.size : Int) ≤ at_) = false := by simpa using c2
        go_wp2
        go_ret
        exact ⟨rfl, (by repeat (first | exact Below.refl _ _ | refine Below.drew ?_ | refine below_drewN ?_ _ | refine Below.alloc ?_ (by first | exact Nat.le_refl _ | (simp; done) | (simp; omega) | omega) _ | refine Below.setCell ?_ (by first | exact Nat.le_refl _ | (simp; done) | (simp; omega) | omega) _ | refine bExtW ?_ (by first | exact Nat.le_refl _ | (simp; done) | (simp; omega) | omega) | refine Below.trans ?_ (Below.mono (by assumption) (by first | exact Nat.le_refl _ | (simp; done) | (simp; omega) | omega))))⟩
      · have d1 : decide (at_ < 0) = false := by simpa using c1
        have d2 : decide ((s0.size : Int) ≤ at_) = false := by simpa using c2
        have d3 : decide (by_ < 1) = false := by simpa using c3
        have c4 : 255 < by_ := by omega
        go_wp2
        go_ret
        exact ⟨rfl, (by repeat (first | exact Below.refl _ _ | refine Below.drew ?_ | refine below_drewN ?_ _ | refine Below.alloc ?_ (by first | exact Nat.le_refl _ | (simp; done) | (simp; omega) | omega) _ | refine Below.setCell ?_ (by first | exact Nat.le_refl _ | (simp; done) | (simp; omega) | omega) _ | refine bExtW ?_ (by first | exact Nat.le_refl _ | (simp; done) | (simp; omega) | omega) | refine Below.trans ?_ (Below.mono (by assumption) (by first | exact Nat.le_refl _ | (simp; done) | (simp; omega) | omega))))⟩
set_option maxRecDepth 100000 in
set_option maxHeartbeats 8000000 in
theorem check_in (W H n : Nat) (a : Option Addr) (c : Nat) (bs : List Bool) (k b : Nat) (w : World) (hT : OkT w a n c bs) (hW : W ≤ 64) (hH : H ≤ 64) (hn : n = W * H) (hk : k < (deckL W H bs).length) (b1 : 1 ≤ b) (b2 : b ≤ 255) :
    Calls Try.prog 5 #[.agg #[.int .i64 (W), .int .i64 (H), .slice a n c], .int .i64 (k), .int .i64 (b)] w fun e w' => e = .returned (.bool true) ∧ Below w.heap.size w w' := by
  have KB := Lib.hid (fun w h => Pack_ok W H n a c bs w h hW hH hn)
  have hsz : (strOf (deckL W H bs)).size = (deckL W H bs).length := strOf_size _
  obtain ⟨p, W2, H2, hu⟩ := wrong_byte hk b1 b2
  have hlt := deck_lt (bs := bs) hW hH
  have hlen := deck_len (bs := bs) hW hH
  have hby := bytesOf_str hlt
  unfold StrPost at KB
  have HT := Lib.hid hT
  clear hT hW hH hn
  obtain ⟨L, hL⟩ : ∃ L, deckL W H bs = L := ⟨_, rfl⟩
  rw [hL] at KB hsz hu hlt hlen hby hk
  clear hL
  obtain ⟨x, hx⟩ : ∃ x, L.getD k 0 = x := ⟨_, rfl⟩
  rw [hx] at hu
  have hx256 : x < 256 := by rw [← hx]; exact hlt _ (getD_memN hk)
  have HX := Lib.hid hx
  obtain ⟨capF, bwF, hcb, hcp⟩ := strBytes2 (strOf L)
  rw [hsz] at hcb
  rw [hsz, hby] at hcp
  have HCB := Lib.hid hcp
  have hlt2 : ∀ y ∈ L.set k ((x + b) % 256), y < 256 := fun y hy => by
    rcases List.mem_or_eq_of_mem_set hy with h | h
    · exact hlt y h
    · omega
  have hlen2 : (L.set k ((x + b) % 256)).length = L.length := by simp
  have hsz2 : (strOf (L.set k ((x + b) % 256))).size ≤ 9223372036854775807 := by rw [strOf_size, hlen2]; exact hlen
  have KU : Hid (∀ w, Calls Try.prog 15 #[.string (strOf (L.set k ((x + b) % 256)))] w fun r w' => r = .returned (.tuple #[.agg #[.int .i64 (0), .int .i64 (0), .slice none 0 0], .agg #[.int .i64 (2), .int .i64 (p)]]) ∧ Below w.heap.size w w') := Lib.hid fun w => (Unpack_any _ w hsz2).mono fun e w' h => by
    unfold UnpPost at h
    rw [bytesOf_str hlt2, hu] at h
    exact h
  have HLT2 := Lib.hid hlt2
  have HL2 := Lib.hid hlen2
  have HG : Hid (∀ j, j < L.length → (L.set k ((x + b) % 256)).getD j 0 = if j = k then (x + b) % 256 else L.getD j 0) := Lib.hid fun j hj => by
    rw [List.getD_eq_getElem?_getD, List.getElem?_set, List.getD_eq_getElem?_getD]
    by_cases e : k = j
    · subst e; simp [hj]
    · rw [if_neg e, if_neg (fun e2 => e e2.symm)]
  clear hlt hby hu hlt2 hlen2 hsz2 hcp hx
  obtain ⟨y, hy⟩ : ∃ y, (x + b) % 256 = y := ⟨_, rfl⟩
  rw [hy] at KU HLT2 HL2 HG
  have v1 : IntKind.u8.wrap (b : Int) = (b : Int) := IntWalk.u8_in _ (by omega)
  have v2 : IntKind.u8.wrap ((x : Int) + (b : Int)) = (y : Int) := by rw [← Int.natCast_add, u8_nat, hy]
  obtain ⟨s0, hs0⟩ : ∃ s0, strOf L = s0 := ⟨_, rfl⟩
  rw [hs0] at KB hcb hsz
  obtain ⟨s2, hs2⟩ : ∃ s2, strOf (L.set k y) = s2 := ⟨_, rfl⟩
  rw [hs2] at KU
  have HS2 := Lib.hid hs2
  obtain ⟨N, hN⟩ : ∃ N, L.length = N := ⟨_, rfl⟩
  rw [hN] at hsz hk hlen hcb HCB HL2 HG
  have d2 : decide ((N : Int) ≤ (k : Int)) = false := by simp; omega
  have d2' : decide (N ≤ k) = false := by simp; omega
  have d3 : decide ((b : Int) < 1) = false := by simp; omega
  have d3' : decide (b < 1) = false := by simp; omega
  have d4 : decide ((255 : Int) < (b : Int)) = false := by simp; omega
  have d4' : decide (255 < b) = false := by simp; omega
  clear hy hs0 hs2 hN
  go_enter Try.func5, Try.ntmps5
  go_wp2_with fail
  refine (alive9_any _).mono ?_
  rintro r w1 ⟨rfl, hb⟩
  obtain ⟨E1, e1, rfl⟩ := bExt hb
  clear hb
  go_wp2_with fail
  refine (KB.out _ (HT.out.below (by repeat (first | exact Below.refl _ _ | refine Below.drew ?_ | refine below_drewN ?_ _ | refine Below.alloc ?_ (by first | exact Nat.le_refl _ | (simp; done) | (simp; omega) | omega) _ | refine Below.setCell ?_ (by first | exact Nat.le_refl _ | (simp; done) | (simp; omega) | omega) _ | refine bExtW ?_ (by first | exact Nat.le_refl _ | (simp; done) | (simp; omega) | omega) | refine Below.trans ?_ (Below.mono (by assumption) (by first | exact Nat.le_refl _ | (simp; done) | (simp; omega) | omega)))))).mono ?_
  rintro r w1 ⟨rfl, hb⟩
  obtain ⟨E2, e2, rfl⟩ := bExt hb
  clear hb
  go_upto_region 6 with fail
  have hb9 : Below w.heap.size w (extW (extW (w.alloc (.cells #[.int .i64 (W), .int .i64 (H), .slice a n c] 24)) E1 e1) E2 e2) := (by repeat (first | exact Below.refl _ _ | refine Below.drew ?_ | refine below_drewN ?_ _ | refine Below.alloc ?_ (by first | exact Nat.le_refl _ | (simp; done) | (simp; omega) | omega) _ | refine Below.setCell ?_ (by first | exact Nat.le_refl _ | (simp; done) | (simp; omega) | omega) _ | refine bExtW ?_ (by first | exact Nat.le_refl _ | (simp; done) | (simp; omega) | omega) | refine Below.trans ?_ (Below.mono (by assumption) (by first | exact Nat.le_refl _ | (simp; done) | (simp; omega) | omega))))
  generalize extW (extW (w.alloc (.cells #[.int .i64 (W), .int .i64 (H), .slice a n c] 24)) E1 e1) E2 e2 = W9 at *
  obtain ⟨hb6, hz6, hc6⟩ := HCB.out W9
  have hcv := hcb W9
  have ck := (hc6 k hk).1
  have fk := (hc6 k hk).2
  rw [HX.out] at ck
  generalize capF W9 = cz at *
  generalize bwF W9 = wz at *
  obtain ⟨gz, hgz⟩ : ∃ gz, W9.heap.size = gz := ⟨_, rfl⟩
  rw [hgz] at hcv ck fk hc6 hz6
  have lg : LtW gz wz := by unfold LtW; omega
  have hcs : (convert 35 9 (.slice (some ⟨gz, 0, none⟩) N cz)).run Try.prog (wz.setCell ⟨gz, k, none⟩ (.int .u8 (y : Int))) = .ok (.string s2) (wz.setCell ⟨gz, k, none⟩ (.int .u8 (y : Int))) := by
    have h := conv_str (c := cz) HLT2.out (w := wz.setCell ⟨gz, k, none⟩ (.int .u8 (y : Int))) (b := gz) (o := 0) (fun j hj => by
      rw [HL2.out] at hj
      rw [HG.out j hj, Nat.zero_add]
      by_cases e : j = k
      · subst e
        rw [if_pos rfl]
        exact World.cell?_setCell_same _ _ _ ck
      · rw [if_neg e, World.cell?_setCell_other _ _ _ _ (by intro e2; injection e2 with _ e3; exact e e3.symm)]
        exact (hc6 j hj).1)
    rw [HL2.out, HS2.out] at h
    exact h
  have HB : Hid (Below w.heap.size w (wz.setCell ⟨gz, k, none⟩ (.int .u8 (y : Int)))) := Lib.hid ((hb9.trans (hb6.mono (by have := hb9.size; omega))).setCell (by have := hb9.size; simp; omega) _)
  clear hc6 hb6 hz6 hgz hcb HCB hb9 KB
  go_wp2_with fail
  refine (KU.out _).mono ?_
  rintro r w1 ⟨rfl, hb⟩
  have hb7 := HB.out.trans (hb.mono HB.out.size)
  clear hb
  go_wp2
  go_ret
  exact ⟨rfl, (hb7.alloc hb7.size _).alloc (by have := hb7.size; simp; omega) _⟩
theorem check_walk (W H : Int) (a : Option Addr) (n c : Nat) (bs : List Bool) (at_ by_ : Int) (w : World) (hT : OkT w a n c bs) (h1 : (-9223372036854775808 ≤ W ∧ W ≤ 9223372036854775807)) (h2 : (-9223372036854775808 ≤ H ∧ H ≤ 9223372036854775807)) :
    Calls Try.prog 5 #[.agg #[.int .i64 (W), .int .i64 (H), .slice a n c], .int .i64 (at_), .int .i64 (by_)] w fun e w' => e = .returned (.bool true) ∧ Below w.heap.size w w' := by
  by_cases hw : wrT W H n = 0
  · obtain ⟨W', H', rfl, rfl, hW, hH, hn⟩ := wrT_zero hw
    by_cases ho : at_ < 0 ∨ ((deckL W' H' bs).length : Int) ≤ at_ ∨ by_ < 1 ∨ 255 < by_
    · exact check_out W' H' n a c bs at_ by_ w hT hW hH hn ho
    · obtain ⟨k, rfl⟩ := Int.eq_ofNat_of_zero_le (show 0 ≤ at_ by omega)
      obtain ⟨b, rfl⟩ := Int.eq_ofNat_of_zero_le (show 0 ≤ by_ by omega)
      exact check_in W' H' n a c bs k b w hT hW hH hn (by omega) (by omega) (by omega)
  · exact check_bad W H a n c at_ by_ w h1 h2 (Nat.le_trans hT.cap hT.lim) hw
end Go.Proofs.Yticplgjpflaelaa
