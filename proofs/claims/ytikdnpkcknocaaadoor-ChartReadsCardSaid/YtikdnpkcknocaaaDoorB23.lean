/- Lemmas and contracts of functions (what each call returns, and that it changes nothing that was there) that the proof of a law of this seat uses; each lemma states its own conditions. -/
import Derived.Test.YtikdnpkcknocaaaDoorB22
import Derived.Test.YtikdnpkcknocaaaDoorB01
import Derived.ProofKit
import Derived.OpenShut
import Derived.ShutString
import Derived.ChangeOld
import Derived.Below
import Derived.Lib.SmallJoins
import Derived.Deep.Strs
namespace Go.Proofs.YtikdnpkcknocaaaDoor
open Go.RowKit
set_option linter.unusedVariables false
set_option linter.unusedSimpArgs false
open By (bytesOf hasAt sgL encN decL colAt rowF RowR readS rowsF RdR hdR rowsL printR RowsOk)
theorem rowsF_ne0 {B : List Nat} (hB : ∀ x ∈ B, x < 256) : ∀ (f i : Nat) (rows : List (List Nat)) (p : Nat), i ≤ B.length → B.length + 1 ≤ f + i → rowsF B f i rows ≠ .bad 0 p
  | 0, i, rows, p, h1, h2 => by omega
  | f + 1, i, rows, p, h1, h2 => by
    unfold By.rowsF
    split
    · split
      · intro h; injection h with h3; omega
      · rename_i row q hrow
        obtain ⟨t, e1, e2, e3, e4, e5⟩ := By.rowF_ok hB _ _ _ _ _ hrow (fun k hk => by cases hk)
        have hbd := By.hasAt_bd e4 (by simp)
        rw [List.length_append, List.length_singleton] at hbd
        split
        · intro h; injection h with h3; omega
        · split
          · intro h; injection h with h3; omega
          · exact rowsF_ne0 hB f q _ p (by omega) (by omega)
    · intro h; cases h
theorem readS_ne0 {B : List Nat} (hB : ∀ x ∈ B, x < 256) {G p : Nat} : readS B ≠ (G, .bad 0 p) := by
  have key : ∀ G', hasAt B 3 [10] → (G', rowsF B (B.length + 2) 4 []) ≠ (G, RdR.bad 0 p) := by
    intro G' h h2
    have hbd := By.hasAt_bd h (by simp)
    rw [List.length_singleton] at hbd
    injection h2 with _ h3
    exact rowsF_ne0 hB _ _ _ p (by omega) (by omega) h3
  unfold By.readS
  split
  · intro h; injection h with _ h; injection h with h; omega
  · split
    · split
      · rename_i h; exact key 6 h
      · intro h; injection h with _ h; injection h with h; omega
    · split
      · split
        · rename_i h; exact key 4 h
        · intro h; injection h with _ h; injection h with h; omega
      · intro h; injection h with _ h; injection h with h; omega
theorem TurnC (G W H : Int) (a : Option Addr) (k c : Nat) (cs : List Int) (hl : cs.length = k) (h0 : (-9223372036854775808 ≤ G ∧ G ≤ 9223372036854775807)) (h1 : (-9223372036854775808 ≤ W ∧ W ≤ 9223372036854775807)) (h2 : (-9223372036854775808 ≤ H ∧ H ≤ 9223372036854775807)) (h3 : k ≤ 9223372036854775807) :
    (∃ e : Int, e ≠ 0 ∧ ∀ w, IsInts w a k cs → Calls Tryd.prog 15 #[.agg #[.int .i64 (G), .int .i64 (W), .int .i64 (H), .slice a k c]] w fun r w' => r = .returned (.tuple #[.string ⟨#[]⟩, .int .i64 (e)]) ∧ Below w.heap.size w w') ∨
    (∃ t : ByteArray, (∀ w, IsInts w a k cs → Calls Tryd.prog 15 #[.agg #[.int .i64 (G), .int .i64 (W), .int .i64 (H), .slice a k c]] w fun r w' => r = .returned (.tuple #[.string t, .int .i64 (0)]) ∧ Below w.heap.size w w') ∧
      (∀ w, Tabs w → Calls Tryd.prog 10 #[.string t] w fun r w' => (∃ A C, r = .returned (.tuple #[.agg #[.int .i64 (G), .int .i64 (W), .int .i64 (H), .slice A k C], .agg #[.int .i64 (0), .int .i64 (0)]]) ∧ IsInts w' A k cs) ∧ Below w.heap.size w w')) := by
  by_cases he : chE G W H k cs = 0
  · right
    obtain ⟨hG, W', H', rfl, rfl, w1, w2, k1, k2, hk, hC⟩ := chE_zero he
    obtain ⟨g, rfl⟩ : ∃ g : Nat, G = g := ⟨G.toNat, by omega⟩
    have hg : g = 4 ∨ g = 6 := by omega
    have hcol : ∀ y x, y < H' → x < W' → colK W' cs y x < 62 := fun y x hy hx => (cell_col hx hy hC hl hk).2
    have hbytes := printB_bytes (G := g) hcol
    have hok := rowsC_ok hcol
    have hle := printR_le (G := g) w2 hok.w (by rw [rowsC_len]; exact k2)
    have hrd := By.read_print hg w1 w2 hok (by rw [rowsC_len]; exact k1) (by rw [rowsC_len]; exact k2) (by rw [← hbytes]; exact By.bytesOf_lt _) hle
    have hsz : (printB g W' H' cs).size ≤ 9223372036854775807 := by
      have := By.bytesOf_len (printB g W' H' cs)
      rw [hbytes] at this
      omega
    have hfl := rowsC_flat (hl.trans hk) (fun x hx => (hC x hx).1)
    have hwd : ((rowsC W' H' cs).headD []).length = W' := by
      have h9 := rowsC_len W' H' cs
      cases hr : rowsC W' H' cs with
      | nil => rw [hr] at h9; simp at h9; omega
      | cons r rs => exact hok.w r (by rw [hr]; simp)
    refine ⟨printB g W' H' cs, fun w hI => chPrint_ok g W' H' k a c cs w hI hg w1 w2 k1 k2 hk hC, fun w hT => ?_⟩
    have h8 := chRead_any (printB g W' H' cs) w hsz hT
    rw [hbytes, hrd] at h8
    refine h8.mono ?_
    rintro r w' ⟨⟨A, C, h4, h5⟩, h6⟩
    have hlen : (rowsC W' H' cs).reverse.flatten.length = k := by
      have := congrArg List.length hfl
      rw [natI, List.length_map, hl] at this
      exact this
    rw [hwd, rowsC_len, hlen] at h4
    rw [hfl, hlen] at h5
    exact ⟨⟨A, C, h4, h5⟩, h6⟩
  · left
    exact ⟨_, he, fun w hI => chPrint_bad G W H a k c cs w hI h0 h1 h2 h3 he⟩
theorem TurnS (s : ByteArray) (hs : s.size ≤ 9223372036854775807) :
    (∃ e p : Int, e ≠ 0 ∧ ∀ w, Tabs w → Calls Tryd.prog 10 #[.string s] w fun r w' => r = .returned (.tuple #[.agg #[.int .i64 (0), .int .i64 (0), .int .i64 (0), .slice none 0 0], .agg #[.int .i64 (e), .int .i64 (p)]]) ∧ Below w.heap.size w w') ∨
    (∃ (G X Y : Int) (m : Nat) (L : List Int), (∀ w, Tabs w → Calls Tryd.prog 10 #[.string s] w fun r w' => (∃ A C, r = .returned (.tuple #[.agg #[.int .i64 (G), .int .i64 (X), .int .i64 (Y), .slice A m C], .agg #[.int .i64 (0), .int .i64 (0)]]) ∧ IsInts w' A m L) ∧ Below w.heap.size w w') ∧
      (∀ a c w, IsInts w a m L → Calls Tryd.prog 15 #[.agg #[.int .i64 (G), .int .i64 (X), .int .i64 (Y), .slice a m c]] w fun r w' => r = .returned (.tuple #[.string s, .int .i64 (0)]) ∧ Below w.heap.size w w')) := by
  have K1 := fun w h => chRead_any s w hs h
  obtain ⟨res, hres⟩ : ∃ res, readS (bytesOf s) = res := ⟨_, rfl⟩
  rw [hres] at K1
  obtain ⟨G, R⟩ := res
  cases R with
  | bad e p =>
    left
    refine ⟨e, p, fun h => ?_, fun w h => K1 w h⟩
    have h9 : e = 0 := by omega
    subst h9
    exact readS_ne0 (By.bytesOf_lt s) hres
  | ok rows =>
    right
    obtain ⟨hg, W, h0, h1, h2, h3, h4, h5⟩ := By.print_read (By.bytesOf_lt s) hres
    have hwd : (rows.headD []).length = W := by
      cases hr : rows with
      | nil => rw [hr] at h3; simp at h3
      | cons r rs => exact h2.w r (by rw [hr]; simp)
    have hlen : rows.reverse.flatten.length = W * rows.length := by
      have := flat_len rows.reverse (fun r hr => h2.w r (by simpa using hr))
      rwa [List.length_reverse] at this
    have hC : ∀ x ∈ natI rows.reverse.flatten, 0 ≤ x ∧ x < 62 := by
      intro x hx
      simp only [natI, List.mem_map, List.mem_flatten, List.mem_reverse] at hx
      obtain ⟨y, ⟨r, hr, hy⟩, rfl⟩ := hx
      have := h2.c r hr y hy
      omega
    refine ⟨G, W, rows.length, rows.reverse.flatten.length, natI rows.reverse.flatten, fun w h => ?_, fun a c w hI => ?_⟩
    · refine (K1 w h).mono ?_
      rintro r w' ⟨⟨A, C, h6, h7⟩, h8⟩
      rw [hwd] at h6
      exact ⟨⟨A, C, h6, h7⟩, h8⟩
    · have h6 := chPrint_ok G W rows.length _ a c (natI rows.reverse.flatten) w hI hg h0 h1 h3 h4 hlen hC
      have hcol : ∀ y x, y < rows.length → x < W → colK W (natI rows.reverse.flatten) y x < 62 := fun y x hy hx => (cell_col hx hy hC (by simp only [natI, List.length_map]) hlen).2
      have h7 : printB G W rows.length (natI rows.reverse.flatten) = s := by
        apply By.bytesOf_inj
        rw [printB_bytes hcol, rowsC_of h2.w, h5]
      rw [h7] at h6
      exact h6
set_option maxRecDepth 100000 in
set_option maxHeartbeats 8000000 in
theorem turns2_walk (G W H : Int) (a : Option Addr) (k c : Nat) (cs : List Int) (s : ByteArray) (w : World) (hI : IsInts w a k cs) (h0 : (-9223372036854775808 ≤ G ∧ G ≤ 9223372036854775807)) (h1 : (-9223372036854775808 ≤ W ∧ W ≤ 9223372036854775807)) (h2 : (-9223372036854775808 ≤ H ∧ H ≤ 9223372036854775807)) (h3 : k ≤ 9223372036854775807) (hs : s.size ≤ 9223372036854775807) (hT : Tabs w) :
    Calls Tryd.prog 5 #[.agg #[.int .i64 (G), .int .i64 (W), .int .i64 (H), .slice a k c], .string s] w fun e w' => e = .returned (.bool true) ∧ Below w.heap.size w w' := by
  have HA := Lib.hid (fun w hT => alive2_any w hT)
  have HC := TurnC G W H a k c cs hI.1 h0 h1 h2 h3
  have HS := TurnS s hs
  have HI := Lib.hid hI
  have HT := Lib.hid hT
  clear hI hT h0 h1 h2 hs
  rcases HC with ⟨e, he, HC1⟩ | ⟨t, HC1, HC2⟩
  · have HC1 := Lib.hid HC1
    have b1 : (e == 0) = false := by simpa using he
    rcases HS with ⟨e2, p2, he2, HS1⟩ | ⟨G2, X2, Y2, m2, L2, HS1, HS2⟩
    · have HS1 := Lib.hid HS1
      have b2 : (e2 != 0) = true := by simpa using he2
      clear he he2
      go_enter Tryd.func5, Tryd.ntmps5
      (go_wp2_with fail; refine (HA.out _ (HT.out.below (by repeat (first | exact Below.refl _ _ | refine Below.drew ?_ | refine below_drewN ?_ _ | refine Below.alloc ?_ (by first | exact Nat.le_refl _ | (simp; done) | (simp; omega) | omega) _ | refine Below.setCell ?_ (by first | exact Nat.le_refl _ | (simp; done) | (simp; omega) | omega) _ | refine bExtW ?_ (by first | exact Nat.le_refl _ | (simp; done) | (simp; omega) | omega) | refine Below.trans ?_ (Below.mono (by assumption) (by first | exact Nat.le_refl _ | (simp; done) | (simp; omega) | omega)))))).mono ?_; rintro r w1 ⟨rfl, hb⟩; obtain ⟨E, d, rfl⟩ := bExt hb; clear hb)
      (go_wp2_with fail; refine (HC1.out _ (HI.out.below (by repeat (first | exact Below.refl _ _ | refine Below.drew ?_ | refine below_drewN ?_ _ | refine Below.alloc ?_ (by first | exact Nat.le_refl _ | (simp; done) | (simp; omega) | omega) _ | refine Below.setCell ?_ (by first | exact Nat.le_refl _ | (simp; done) | (simp; omega) | omega) _ | refine bExtW ?_ (by first | exact Nat.le_refl _ | (simp; done) | (simp; omega) | omega) | refine Below.trans ?_ (Below.mono (by assumption) (by first | exact Nat.le_refl _ | (simp; done) | (simp; omega) | omega)))))).mono ?_; rintro r w1 ⟨rfl, hb⟩; obtain ⟨E, d, rfl⟩ := bExt hb; clear hb)
      (go_wp2_with fail; refine (HS1.out _ (HT.out.below (by repeat (first | exact Below.refl _ _ | refine Below.drew ?_ | refine below_drewN ?_ _ | refine Below.alloc ?_ (by first | exact Nat.le_refl _ | (simp; done) | (simp; omega) | omega) _ | refine Below.setCell ?_ (by first | exact Nat.le_refl _ | (simp; done) | (simp; omega) | omega) _ | refine bExtW ?_ (by first | exact Nat.le_refl _ | (simp; done) | (simp; omega) | omega) | refine Below.trans ?_ (Below.mono (by assumption) (by first | exact Nat.le_refl _ | (simp; done) | (simp; omega) | omega)))))).mono ?_; rintro r w1 ⟨rfl, hb⟩; obtain ⟨E, d, rfl⟩ := bExt hb; clear hb)
      go_wp2
      go_ret
      exact ⟨rfl, (by repeat (first | exact Below.refl _ _ | refine Below.drew ?_ | refine below_drewN ?_ _ | refine Below.alloc ?_ (by first | exact Nat.le_refl _ | (simp; done) | (simp; omega) | omega) _ | refine Below.setCell ?_ (by first | exact Nat.le_refl _ | (simp; done) | (simp; omega) | omega) _ | refine bExtW ?_ (by first | exact Nat.le_refl _ | (simp; done) | (simp; omega) | omega) | refine Below.trans ?_ (Below.mono (by assumption) (by first | exact Nat.le_refl _ | (simp; done) | (simp; omega) | omega))))⟩
    · have HS1 := Lib.hid HS1; have HS2 := Lib.hid HS2
      clear he
      go_enter Tryd.func5, Tryd.ntmps5
      (go_wp2_with fail; refine (HA.out _ (HT.out.below (by repeat (first | exact Below.refl _ _ | refine Below.drew ?_ | refine below_drewN ?_ _ | refine Below.alloc ?_ (by first | exact Nat.le_refl _ | (simp; done) | (simp; omega) | omega) _ | refine Below.setCell ?_ (by first | exact Nat.le_refl _ | (simp; done) | (simp; omega) | omega) _ | refine bExtW ?_ (by first | exact Nat.le_refl _ | (simp; done) | (simp; omega) | omega) | refine Below.trans ?_ (Below.mono (by assumption) (by first | exact Nat.le_refl _ | (simp; done) | (simp; omega) | omega)))))).mono ?_; rintro r w1 ⟨rfl, hb⟩; obtain ⟨E, d, rfl⟩ := bExt hb; clear hb)
      (go_wp2_with fail; refine (HC1.out _ (HI.out.below (by repeat (first | exact Below.refl _ _ | refine Below.drew ?_ | refine below_drewN ?_ _ | refine Below.alloc ?_ (by first | exact Nat.le_refl _ | (simp; done) | (simp; omega) | omega) _ | refine Below.setCell ?_ (by first | exact Nat.le_refl _ | (simp; done) | (simp; omega) | omega) _ | refine bExtW ?_ (by first | exact Nat.le_refl _ | (simp; done) | (simp; omega) | omega) | refine Below.trans ?_ (Below.mono (by assumption) (by first | exact Nat.le_refl _ | (simp; done) | (simp; omega) | omega)))))).mono ?_; rintro r w1 ⟨rfl, hb⟩; obtain ⟨E, d, rfl⟩ := bExt hb; clear hb)
      go_wp2_with fail
      refine (HS1.out _ (HT.out.below (by repeat (first | exact Below.refl _ _ | refine Below.drew ?_ | refine below_drewN ?_ _ | refine Below.alloc ?_ (by first | exact Nat.le_refl _ | (simp; done) | (simp; omega) | omega) _ | refine Below.setCell ?_ (by first | exact Nat.le_refl _ | (simp; done) | (simp; omega) | omega) _ | refine bExtW ?_ (by first | exact Nat.le_refl _ | (simp; done) | (simp; omega) | omega) | refine Below.trans ?_ (Below.mono (by assumption) (by first | exact Nat.le_refl _ | (simp; done) | (simp; omega) | omega)))))).mono ?_
      rintro r w9 ⟨⟨A9, C9, rfl, hI9⟩, hb9⟩
      obtain ⟨E9, d9, rfl⟩ := bExt hb9
      have HI9 := Lib.hid hI9
      clear hI9 hb9
      (go_wp2_with fail; refine (HS2.out _ _ _ (HI9.out.below (by repeat (first | exact Below.refl _ _ | refine Below.drew ?_ | refine below_drewN ?_ _ | refine Below.alloc ?_ (by first | exact Nat.le_refl _ | (simp; done) | (simp; omega) | omega) _ | refine Below.setCell ?_ (by first | exact Nat.le_refl _ | (simp; done) | (simp; omega) | omega) _ | refine bExtW ?_ (by first | exact Nat.le_refl _ | (simp; done) | (simp; omega) | omega) | refine Below.trans ?_ (Below.mono (by assumption) (by first | exact Nat.le_refl _ | (simp; done) | (simp; omega) | omega)))))).mono ?_; rintro r w1 ⟨rfl, hb⟩; obtain ⟨E, d, rfl⟩ := bExt hb; clear hb)
      go_wp2
      go_ret
      exact ⟨rfl, (by repeat (first | exact Below.refl _ _ | refine Below.drew ?_ | refine below_drewN ?_ _ | refine Below.alloc ?_ (by first | exact Nat.le_refl _ | (simp; done) | (simp; omega) | omega) _ | refine Below.setCell ?_ (by first | exact Nat.le_refl _ | (simp; done) | (simp; omega) | omega) _ | refine bExtW ?_ (by first | exact Nat.le_refl _ | (simp; done) | (simp; omega) | omega) | refine Below.trans ?_ (Below.mono (by assumption) (by first | exact Nat.le_refl _ | (simp; done) | (simp; omega) | omega))))⟩
  · have HC1 := Lib.hid HC1; have HC2 := Lib.hid HC2
    rcases HS with ⟨e2, p2, he2, HS1⟩ | ⟨G2, X2, Y2, m2, L2, HS1, HS2⟩
    · have HS1 := Lib.hid HS1
      have b2 : (e2 != 0) = true := by simpa using he2
      clear he2
      go_enter Tryd.func5, Tryd.ntmps5
      (go_wp2_with fail; refine (HA.out _ (HT.out.below (by repeat (first | exact Below.refl _ _ | refine Below.drew ?_ | refine below_drewN ?_ _ | refine Below.alloc ?_ (by first | exact Nat.le_refl _ | (simp; done) | (simp; omega) | omega) _ | refine Below.setCell ?_ (by first | exact Nat.le_refl _ | (simp; done) | (simp; omega) | omega) _ | refine bExtW ?_ (by first | exact Nat.le_refl _ | (simp; done) | (simp; omega) | omega) | refine Below.trans ?_ (Below.mono (by assumption) (by first | exact Nat.le_refl _ | (simp; done) | (simp; omega) | omega)))))).mono ?_; rintro r w1 ⟨rfl, hb⟩; obtain ⟨E, d, rfl⟩ := bExt hb; clear hb)
      (go_wp2_with fail; refine (HC1.out _ (HI.out.below (by repeat (first | exact Below.refl _ _ | refine Below.drew ?_ | refine below_drewN ?_ _ | refine Below.alloc ?_ (by first | exact Nat.le_refl _ | (simp; done) | (simp; omega) | omega) _ | refine Below.setCell ?_ (by first | exact Nat.le_refl _ | (simp; done) | (simp; omega) | omega) _ | refine bExtW ?_ (by first | exact Nat.le_refl _ | (simp; done) | (simp; omega) | omega) | refine Below.trans ?_ (Below.mono (by assumption) (by first | exact Nat.le_refl _ | (simp; done) | (simp; omega) | omega)))))).mono ?_; rintro r w1 ⟨rfl, hb⟩; obtain ⟨E, d, rfl⟩ := bExt hb; clear hb)
      go_wp2_with fail
      refine (HC2.out _ (HT.out.below (by repeat (first | exact Below.refl _ _ | refine Below.drew ?_ | refine below_drewN ?_ _ | refine Below.alloc ?_ (by first | exact Nat.le_refl _ | (simp; done) | (simp; omega) | omega) _ | refine Below.setCell ?_ (by first | exact Nat.le_refl _ | (simp; done) | (simp; omega) | omega) _ | refine bExtW ?_ (by first | exact Nat.le_refl _ | (simp; done) | (simp; omega) | omega) | refine Below.trans ?_ (Below.mono (by assumption) (by first | exact Nat.le_refl _ | (simp; done) | (simp; omega) | omega)))))).mono ?_
      rintro r w7 ⟨⟨A7, C7, rfl, hI7⟩, hb7⟩
      obtain ⟨E7, d7, rfl⟩ := bExt hb7
      have HI7 := Lib.hid hI7
      clear hI7 hb7
      go_wp2_with fail
      refine (sameC_self G W H k a c A7 C7 cs _ (HI.out.below (by repeat (first | exact Below.refl _ _ | refine Below.drew ?_ | refine below_drewN ?_ _ | refine Below.alloc ?_ (by first | exact Nat.le_refl _ | (simp; done) | (simp; omega) | omega) _ | refine Below.setCell ?_ (by first | exact Nat.le_refl _ | (simp; done) | (simp; omega) | omega) _ | refine bExtW ?_ (by first | exact Nat.le_refl _ | (simp; done) | (simp; omega) | omega) | refine Below.trans ?_ (Below.mono (by assumption) (by first | exact Nat.le_refl _ | (simp; done) | (simp; omega) | omega))))) (HI7.out.below (by repeat (first | exact Below.refl _ _ | refine Below.drew ?_ | refine below_drewN ?_ _ | refine Below.alloc ?_ (by first | exact Nat.le_refl _ | (simp; done) | (simp; omega) | omega) _ | refine Below.setCell ?_ (by first | exact Nat.le_refl _ | (simp; done) | (simp; omega) | omega) _ | refine bExtW ?_ (by first | exact Nat.le_refl _ | (simp; done) | (simp; omega) | omega) | refine Below.trans ?_ (Below.mono (by assumption) (by first | exact Nat.le_refl _ | (simp; done) | (simp; omega) | omega))))) h3).mono ?_
      rintro r w5 ⟨rfl, hb5⟩
      obtain ⟨E5, d5, rfl⟩ := bExt hb5
      clear hb5
      (go_wp2_with fail; refine (HS1.out _ (HT.out.below (by repeat (first | exact Below.refl _ _ | refine Below.drew ?_ | refine below_drewN ?_ _ | refine Below.alloc ?_ (by first | exact Nat.le_refl _ | (simp; done) | (simp; omega) | omega) _ | refine Below.setCell ?_ (by first | exact Nat.le_refl _ | (simp; done) | (simp; omega) | omega) _ | refine bExtW ?_ (by first | exact Nat.le_refl _ | (simp; done) | (simp; omega) | omega) | refine Below.trans ?_ (Below.mono (by assumption) (by first | exact Nat.le_refl _ | (simp; done) | (simp; omega) | omega)))))).mono ?_; rintro r w1 ⟨rfl, hb⟩; obtain ⟨E, d, rfl⟩ := bExt hb; clear hb)
      go_wp2
      go_ret
      exact ⟨rfl, (by repeat (first | exact Below.refl _ _ | refine Below.drew ?_ | refine below_drewN ?_ _ | refine Below.alloc ?_ (by first | exact Nat.le_refl _ | (simp; done) | (simp; omega) | omega) _ | refine Below.setCell ?_ (by first | exact Nat.le_refl _ | (simp; done) | (simp; omega) | omega) _ | refine bExtW ?_ (by first | exact Nat.le_refl _ | (simp; done) | (simp; omega) | omega) | refine Below.trans ?_ (Below.mono (by assumption) (by first | exact Nat.le_refl _ | (simp; done) | (simp; omega) | omega))))⟩
    · have HS1 := Lib.hid HS1; have HS2 := Lib.hid HS2
      go_enter Tryd.func5, Tryd.ntmps5
      (go_wp2_with fail; refine (HA.out _ (HT.out.below (by repeat (first | exact Below.refl _ _ | refine Below.drew ?_ | refine below_drewN ?_ _ | refine Below.alloc ?_ (by first | exact Nat.le_refl _ | (simp; done) | (simp; omega) | omega) _ | refine Below.setCell ?_ (by first | exact Nat.le_refl _ | (simp; done) | (simp; omega) | omega) _ | refine bExtW ?_ (by first | exact Nat.le_refl _ | (simp; done) | (simp; omega) | omega) | refine Below.trans ?_ (Below.mono (by assumption) (by first | exact Nat.le_refl _ | (simp; done) | (simp; omega) | omega)))))).mono ?_; rintro r w1 ⟨rfl, hb⟩; obtain ⟨E, d, rfl⟩ := bExt hb; clear hb)
      (go_wp2_with fail; refine (HC1.out _ (HI.out.below (by repeat (first | exact Below.refl _ _ | refine Below.drew ?_ | refine below_drewN ?_ _ | refine Below.alloc ?_ (by first | exact Nat.le_refl _ | (simp; done) | (simp; omega) | omega) _ | refine Below.setCell ?_ (by first | exact Nat.le_refl _ | (simp; done) | (simp; omega) | omega) _ | refine bExtW ?_ (by first | exact Nat.le_refl _ | (simp; done) | (simp; omega) | omega) | refine Below.trans ?_ (Below.mono (by assumption) (by first | exact Nat.le_refl _ | (simp; done) | (simp; omega) | omega)))))).mono ?_; rintro r w1 ⟨rfl, hb⟩; obtain ⟨E, d, rfl⟩ := bExt hb; clear hb)
      go_wp2_with fail
      refine (HC2.out _ (HT.out.below (by repeat (first | exact Below.refl _ _ | refine Below.drew ?_ | refine below_drewN ?_ _ | refine Below.alloc ?_ (by first | exact Nat.le_refl _ | (simp; done) | (simp; omega) | omega) _ | refine Below.setCell ?_ (by first | exact Nat.le_refl _ | (simp; done) | (simp; omega) | omega) _ | refine bExtW ?_ (by first | exact Nat.le_refl _ | (simp; done) | (simp; omega) | omega) | refine Below.trans ?_ (Below.mono (by assumption) (by first | exact Nat.le_refl _ | (simp; done) | (simp; omega) | omega)))))).mono ?_
      rintro r w7 ⟨⟨A7, C7, rfl, hI7⟩, hb7⟩
      obtain ⟨E7, d7, rfl⟩ := bExt hb7
      have HI7 := Lib.hid hI7
      clear hI7 hb7
      go_wp2_with fail
      refine (sameC_self G W H k a c A7 C7 cs _ (HI.out.below (by repeat (first | exact Below.refl _ _ | refine Below.drew ?_ | refine below_drewN ?_ _ | refine Below.alloc ?_ (by first | exact Nat.le_refl _ | (simp; done) | (simp; omega) | omega) _ | refine Below.setCell ?_ (by first | exact Nat.le_refl _ | (simp; done) | (simp; omega) | omega) _ | refine bExtW ?_ (by first | exact Nat.le_refl _ | (simp; done) | (simp; omega) | omega) | refine Below.trans ?_ (Below.mono (by assumption) (by first | exact Nat.le_refl _ | (simp; done) | (simp; omega) | omega))))) (HI7.out.below (by repeat (first | exact Below.refl _ _ | refine Below.drew ?_ | refine below_drewN ?_ _ | refine Below.alloc ?_ (by first | exact Nat.le_refl _ | (simp; done) | (simp; omega) | omega) _ | refine Below.setCell ?_ (by first | exact Nat.le_refl _ | (simp; done) | (simp; omega) | omega) _ | refine bExtW ?_ (by first | exact Nat.le_refl _ | (simp; done) | (simp; omega) | omega) | refine Below.trans ?_ (Below.mono (by assumption) (by first | exact Nat.le_refl _ | (simp; done) | (simp; omega) | omega))))) h3).mono ?_
      rintro r w5 ⟨rfl, hb5⟩
      obtain ⟨E5, d5, rfl⟩ := bExt hb5
      clear hb5
      go_wp2_with fail
      refine (HS1.out _ (HT.out.below (by repeat (first | exact Below.refl _ _ | refine Below.drew ?_ | refine below_drewN ?_ _ | refine Below.alloc ?_ (by first | exact Nat.le_refl _ | (simp; done) | (simp; omega) | omega) _ | refine Below.setCell ?_ (by first | exact Nat.le_refl _ | (simp; done) | (simp; omega) | omega) _ | refine bExtW ?_ (by first | exact Nat.le_refl _ | (simp; done) | (simp; omega) | omega) | refine Below.trans ?_ (Below.mono (by assumption) (by first | exact Nat.le_refl _ | (simp; done) | (simp; omega) | omega)))))).mono ?_
      rintro r w9 ⟨⟨A9, C9, rfl, hI9⟩, hb9⟩
      obtain ⟨E9, d9, rfl⟩ := bExt hb9
      have HI9 := Lib.hid hI9
      clear hI9 hb9
      (go_wp2_with fail; refine (HS2.out _ _ _ (HI9.out.below (by repeat (first | exact Below.refl _ _ | refine Below.drew ?_ | refine below_drewN ?_ _ | refine Below.alloc ?_ (by first | exact Nat.le_refl _ | (simp; done) | (simp; omega) | omega) _ | refine Below.setCell ?_ (by first | exact Nat.le_refl _ | (simp; done) | (simp; omega) | omega) _ | refine bExtW ?_ (by first | exact Nat.le_refl _ | (simp; done) | (simp; omega) | omega) | refine Below.trans ?_ (Below.mono (by assumption) (by first | exact Nat.le_refl _ | (simp; done) | (simp; omega) | omega)))))).mono ?_; rintro r w1 ⟨rfl, hb⟩; obtain ⟨E, d, rfl⟩ := bExt hb; clear hb)
      go_wp2
      go_ret
      exact ⟨rfl, (by repeat (first | exact Below.refl _ _ | refine Below.drew ?_ | refine below_drewN ?_ _ | refine Below.alloc ?_ (by first | exact Nat.le_refl _ | (simp; done) | (simp; omega) | omega) _ | refine Below.setCell ?_ (by first | exact Nat.le_refl _ | (simp; done) | (simp; omega) | omega) _ | refine bExtW ?_ (by first | exact Nat.le_refl _ | (simp; done) | (simp; omega) | omega) | refine Below.trans ?_ (Below.mono (by assumption) (by first | exact Nat.le_refl _ | (simp; done) | (simp; omega) | omega))))⟩
end Go.Proofs.YtikdnpkcknocaaaDoor

namespace Go.Proofs.YtikdnpkcknocaaaDoor
open Go.ChangeShapes Go.WideShapes Go.ChangeAt Go.RowKit Go.Joins
open Go.ChangeMaps (open_string shut_string)
set_option linter.unusedVariables false
set_option linter.unusedSimpArgs false
set_option maxRecDepth 100000
theorem int_wf {x : Int} (h : (Lit.int .i64 x).wf = true) : (-9223372036854775808 ≤ x ∧ x ≤ 9223372036854775807) := by
  simpa [Lit.wf, IntKind.min, IntKind.max, IntKind.signed, IntKind.bits] using h
section
variable {H : Type} {enc : TypeId × Value → H} {W : World} {base b0 : Nat} {spare : Addr → Bool} {held : Bool} {v : Value} {d : DataW H} {p : List MemPlace}
theorem cellsPoint : Tryd.prog.cellsOf 36 = 2 := by kernel_rfl
theorem pt_arg (hv : Value.okWide Tryd.prog W .any b0 36 v) (h : DataW.Trod enc Tryd.prog W 0 (fun _ => true) true 36 v d p) : ∃ x y, v = .agg #[.int .i64 (x), .int .i64 (y)] ∧ (-9223372036854775808 ≤ x ∧ x ≤ 9223372036854775807) ∧ (-9223372036854775808 ≤ y ∧ y ≤ 9223372036854775807) := by
  obtain ⟨c0, c1, z0, z1, m, e, _, _, hy0, hy1⟩ := open_agg2 Tryd.underlying36 (by kernel_rfl) cellsPoint hv h
  obtain ⟨x, e0, _, wa⟩ := DataW.trod_int Tryd.underlying3 hy0
  obtain ⟨y, e1, _, wb⟩ := DataW.trod_int Tryd.underlying3 hy1
  simp at e0 e1
  subst e0 e1
  exact ⟨x, y, e, int_wf wa, int_wf wb⟩
set_option maxRecDepth 100000 in
theorem ints_arg (hv : Value.okWide Tryd.prog W .any b0 25 v) (h : DataW.Trod enc Tryd.prog W 0 (fun _ => true) true 25 v d p) :
    ∃ a n c z, v = .slice a n c ∧ IsInts W a n z ∧ n ≤ 9223372036854775807 ∧ ∀ x ∈ z, (-9223372036854775808 ≤ x ∧ x ≤ 9223372036854775807) := by
  obtain ⟨a0, len0, cap0, rfl⟩ := okWide_slice Tryd.underlying25 hv
  obtain ⟨fuel, hf⟩ := h
  rcases open_ints Tryd.underlying25 Tryd.underlying3 (by kernel_rfl) hf with ⟨hcs, _⟩ | ⟨x, l, c, zs, hcs, _, hl, hm, hz, _, hcell, hwz⟩
  · simp [Value.cells] at hcs
    obtain ⟨rfl, rfl, rfl⟩ := hcs
    exact ⟨none, 0, 0, [], rfl, ⟨rfl, fun h => by omega⟩, by omega, by simp⟩
  · simp [Value.cells] at hcs
    obtain ⟨rfl, rfl, rfl⟩ := hcs
    simp only [if_true] at hz
    unfold maxLen at hm
    refine ⟨some x, len0, cap0, zs.take len0, rfl, ⟨by rw [List.length_take]; omega, fun hn => ?_⟩, by omega, fun y hy => int_wf (hwz y (List.mem_of_mem_take hy))⟩
    obtain ⟨b, off, spot⟩ := x
    have h0 := hcell 0 (by omega)
    have hspot : spot = none := by simpa [Addr.add] using World.cell?_spot h0
    subst hspot
    refine ⟨b, off, rfl, World.block_lt_of_cell? W _ h0, fun j hj => ?_⟩
    have := hcell j (by omega)
    rw [Addr.add_lit] at this
    rw [this, List.getD_eq_getElem?_getD, List.getD_eq_getElem?_getD, List.getElem?_take, if_pos hj]
end
end Go.Proofs.YtikdnpkcknocaaaDoor
