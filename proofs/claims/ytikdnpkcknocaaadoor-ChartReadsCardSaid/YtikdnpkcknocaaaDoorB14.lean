/- Lemmas and contracts of functions (what each call returns, and that it changes nothing that was there) that the proof of a law of this seat uses; each lemma states its own conditions. -/
import Derived.Test.YtikdnpkcknocaaaDoorB13
import Derived.Test.YtikdnpkcknocaaaDoorB08
namespace Go.Proofs.YtikdnpkcknocaaaDoor
open Go.RowKit
set_option linter.unusedVariables false
set_option linter.unusedSimpArgs false
open By (bytesOf hasAt sgL encN decL colAt rowF RowR)
set_option maxRecDepth 100000 in
set_option maxHeartbeats 8000000 in
theorem chBad_any (e p : Int) (w : World) : Calls Tryd.prog 21 #[.int .i64 (e), .int .i64 (p)] w fun r w' => r = .returned (.tuple #[.agg #[.int .i64 (0), .int .i64 (0), .int .i64 (0), .slice none 0 0], .agg #[.int .i64 (e), .int .i64 (p)]]) ∧ Below w.heap.size w w' := by
  go_enter Tryd.func21, Tryd.ntmps21
  go_wp2
  refine bodyPost_ret (v := .tuple #[.agg #[.int .i64 (0), .int .i64 (0), .int .i64 (0), .slice none 0 0], .agg #[.int .i64 (e), .int .i64 (p)]]) (by simp [results, Tryd.results21, go_sem]) rfl ⟨rfl, (by repeat (first | exact Below.refl _ _ | refine Below.drew ?_ | refine below_drewN ?_ _ | refine Below.alloc ?_ (by first | exact Nat.le_refl _ | (simp; done) | (simp; omega) | omega) _ | refine Below.setCell ?_ (by first | exact Nat.le_refl _ | (simp; done) | (simp; omega) | omega) _ | refine bExtW ?_ (by first | exact Nat.le_refl _ | (simp; done) | (simp; omega) | omega) | refine Below.trans ?_ (Below.mono (by assumption) (by first | exact Nat.le_refl _ | (simp; done) | (simp; omega) | omega))))⟩
set_option maxRecDepth 100000 in
set_option maxHeartbeats 8000000 in
theorem r2Bad_any (e p : Int) (w : World) : Calls Tryd.prog 24 #[.int .i64 (e), .int .i64 (p)] w fun r w' => r = .returned (.tuple #[.agg #[.int .i64 (0), .int .i64 (0), .int .i64 (0), .slice none 0 0], .agg #[.int .i64 (e), .int .i64 (p)]]) ∧ Below w.heap.size w w' := by
  go_enter Tryd.func24, Tryd.ntmps24
  go_wp2
  refine bodyPost_ret (v := .tuple #[.agg #[.int .i64 (0), .int .i64 (0), .int .i64 (0), .slice none 0 0], .agg #[.int .i64 (e), .int .i64 (p)]]) (by simp [results, Tryd.results24, go_sem]) rfl ⟨rfl, (by repeat (first | exact Below.refl _ _ | refine Below.drew ?_ | refine below_drewN ?_ _ | refine Below.alloc ?_ (by first | exact Nat.le_refl _ | (simp; done) | (simp; omega) | omega) _ | refine Below.setCell ?_ (by first | exact Nat.le_refl _ | (simp; done) | (simp; omega) | omega) _ | refine bExtW ?_ (by first | exact Nat.le_refl _ | (simp; done) | (simp; omega) | omega) | refine Below.trans ?_ (Below.mono (by assumption) (by first | exact Nat.le_refl _ | (simp; done) | (simp; omega) | omega))))⟩
theorem sigs_at' {q n : Nat} (h : q < n) : (sigs n)[q]? = some (.string (sigS q)) := by
  unfold sigs; rw [List.getElem?_map, List.getElem?_range h]; rfl
theorem sigs_cell {w : World} {B c q : Nat} {A : Nat} (h : w.ownsRow B 9 1 (.slice (some ⟨A, 0, none⟩) 62 c) 62 (sigs 62)) (hq : q < 62) : w.cell? ⟨A, q, none⟩ = some (.string (sigS q)) := by
  rw [(own_cell h hq).1, sigs_at' hq]
theorem sgS_L {k : Nat} (hk : k < 62) : bytesOf (sigS k) = sgL k := By.sigS_L ⟨k, hk⟩
theorem sgS_size {k : Nat} (hk : k < 62) : (sigS k).size = (sgL k).length := by rw [← sgS_L hk, By.bytesOf_len]
set_option maxRecDepth 100000 in
set_option maxHeartbeats 8000000 in
theorem r2Colour_ok (s : ByteArray) (w : World) (hs : s.size ≤ 9223372036854775807) :
    Calls Tryd.prog 9 #[.string s] w fun e w' => e = .returned (.tuple #[.int .i64 (colB (bytesOf s)).1, .int .i64 (colB (bytesOf s)).2]) ∧ Below w.heap.size w w' := by
  have HG := Lib.hid (fun w => Signs_ok w)
  have HST := Lib.hid (fun (k : Nat) w (hk : k < 62) => by
    have h := starts_ok s (sigS k) 0 w hs (by rw [sgS_size hk]; exact (By.sgL_len k).1) (by rw [sgS_size hk]; have := (By.sgL_len k).2; omega)
    rw [sgS_L hk] at h
    exact h)
  have hBL := By.bytesOf_lt s
  have HSO : Hid (∀ k, k < 62 → hasAt (bytesOf s) 0 (sgL k) → colB (bytesOf s) = (k, (sigS k).size)) := Lib.hid fun k hk h => by
    unfold colB
    rw [(By.colAt_some hBL).2 ⟨hk, h⟩, sgS_size hk]
  have HNO : Hid ((∀ k, k < 62 → ¬ hasAt (bytesOf s) 0 (sgL k)) → colB (bytesOf s) = (0, 0)) := Lib.hid fun h => by
    unfold colB
    rw [By.colAt_none.2 h]
  clear hBL hs
  go_enter Tryd.func9, Tryd.ntmps9
  go_wp2_with fail
  refine (HG.out _).mono ?_
  rintro r w2 ⟨A, c, rfl, hown, hb2⟩
  have HCE : Hid (∀ k, k < 62 → w2.cell? ⟨A, k, none⟩ = some (.string (sigS k))) := Lib.hid fun k hk => sigs_cell hown hk
  have hbw : Below w.heap.size w w2 := hb2
  have hsz2 : w.heap.size ≤ w2.heap.size := hb2.size
  clear hown hb2 HG
  go_wp2_with fail
  go_loopw [8] (fun kv wr => ∃ (k : Nat) (E : Array Obj) (d : Nat), k ≤ 62 ∧ kv = .int .i64 k ∧ Hid (∀ j, j < k → ¬ hasAt (bytesOf s) 0 (sgL j)) ∧ wr = extW w2 E d) (fun kv _ => 62 - (intOf kv).toNat)
  case atStart => exact ⟨0, #[], _, by omega, rfl, Lib.hid fun j h => absurd h (by omega), extW_zero _⟩
  case round =>
    obtain ⟨k, E, d, hk, rfl, HK, rfl⟩ := hrel
    by_cases hk6 : k < 62
    · have dk : decide ((k : Int) < 62) = true := by simp; omega
      have dk' : decide (k < 62) = true := by simpa using hk6
      have vk : IntKind.i64.wrap ((k : Int) + 1) = (k : Int) + 1 := IntWalk.i64_in _ (by omega)
      have c0 := HCE.out k hk6
      have lA : LtW A w2 := World.block_lt_of_cell? _ _ c0
      have HS1 := Lib.hid (fun w => HST.out k w hk6)
      by_cases e : hasAt (bytesOf s) 0 (sgL k)
      · have HV := Lib.hid (HSO.out k hk6 e)
        rw [decide_eq_true e] at HS1
        generalize sigS k = t at *
        clear e HST HSO HNO
        (go_wp2_with fail; refine (HS1.out _).mono ?_; rintro r w1 ⟨rfl, hb⟩; obtain ⟨E, d, rfl⟩ := bExt hb; clear hb)
        go_wp2
        go_ret2
        exact ⟨by rw [HV.out]; rfl, (by repeat (first | exact Below.refl _ _ | refine Below.drew ?_ | refine below_drewN ?_ _ | refine Below.alloc ?_ (by first | exact Nat.le_refl _ | (simp; done) | (simp; omega) | omega) _ | refine Below.setCell ?_ (by first | exact Nat.le_refl _ | (simp; done) | (simp; omega) | omega) _ | refine bExtW ?_ (by first | exact Nat.le_refl _ | (simp; done) | (simp; omega) | omega) | refine Below.trans ?_ (Below.mono (by assumption) (by first | exact Nat.le_refl _ | (simp; done) | (simp; omega) | omega))))⟩
      · have HN := Lib.hid e
        rw [decide_eq_false e] at HS1
        generalize sigS k = t at *
        clear e HST
        (go_wp2_with fail; refine (HS1.out _).mono ?_; rintro r w1 ⟨rfl, hb⟩; obtain ⟨E, d, rfl⟩ := bExt hb; clear hb)
        go_wp2
        go_roundw
        case rel => exact ⟨k + 1, _, _, by omega, by go_num, Lib.hid fun j hj => (by
          by_cases e : j = k
          · subst e; exact HN.out
          · exact HK.out j (by omega)), by simp only [extW_extW]; rfl⟩
        case measure => simp [intOf]; omega
    · obtain rfl : k = 62 := by omega
      have HV := Lib.hid (HNO.out fun k hk => HK.out k hk)
      clear HST HSO HNO
      go_wp2
      go_ret2
      exact ⟨by rw [HV.out]; rfl, (by repeat (first | exact Below.refl _ _ | refine Below.drew ?_ | refine below_drewN ?_ _ | refine Below.alloc ?_ (by first | exact Nat.le_refl _ | (simp; done) | (simp; omega) | omega) _ | refine Below.setCell ?_ (by first | exact Nat.le_refl _ | (simp; done) | (simp; omega) | omega) _ | refine bExtW ?_ (by first | exact Nat.le_refl _ | (simp; done) | (simp; omega) | omega) | refine Below.trans ?_ (Below.mono (by assumption) (by first | exact Nat.le_refl _ | (simp; done) | (simp; omega) | omega))))⟩
end Go.Proofs.YtikdnpkcknocaaaDoor

namespace Go.Proofs.YtikdnpkcknocaaaDoor
open Go.RowKit
set_option linter.unusedVariables false
set_option linter.unusedSimpArgs false
open By (bytesOf hasAt sgL encN decL colAt rowF RowR)
theorem sgS_dec : ∀ c : Fin 62, Utf8.decode (sigS c) 0 = (signK c, (sigS c).size) := by decide +kernel
set_option maxRecDepth 100000 in
set_option maxHeartbeats 8000000 in
theorem r2Sign_any (n : Int) (w : World) (hn : (-9223372036854775808 ≤ n ∧ n ≤ 9223372036854775807)) : Calls Tryd.prog 7 #[.int .i64 (n)] w fun e w' => e = .returned (.int .i32 (sgV n)) ∧ Below w.heap.size w w' := by
  by_cases h0 : n < 0
  · have d0 : decide (n < 0) = true := by simpa using h0
    have hv : sgV n = 63 := by unfold sgV; rw [if_pos (.inl h0)]
    rw [hv]
    clear hv
    go_enter Tryd.func7, Tryd.ntmps7
    go_wp2
    go_ret
    exact ⟨rfl, (by repeat (first | exact Below.refl _ _ | refine Below.drew ?_ | refine below_drewN ?_ _ | refine Below.alloc ?_ (by first | exact Nat.le_refl _ | (simp; done) | (simp; omega) | omega) _ | refine Below.setCell ?_ (by first | exact Nat.le_refl _ | (simp; done) | (simp; omega) | omega) _ | refine bExtW ?_ (by first | exact Nat.le_refl _ | (simp; done) | (simp; omega) | omega) | refine Below.trans ?_ (Below.mono (by assumption) (by first | exact Nat.le_refl _ | (simp; done) | (simp; omega) | omega))))⟩
  · have d0 : decide (n < 0) = false := by simpa using h0
    by_cases h1 : 61 < n
    · have d1 : decide (n > 61) = true := by simp; omega
      have d2 : decide (61 < n) = true := by simp; omega
      have hv : sgV n = 63 := by unfold sgV; rw [if_pos (.inr h1)]
      rw [hv]
      clear hv
      go_enter Tryd.func7, Tryd.ntmps7
      go_wp2
      go_ret
      exact ⟨rfl, (by repeat (first | exact Below.refl _ _ | refine Below.drew ?_ | refine below_drewN ?_ _ | refine Below.alloc ?_ (by first | exact Nat.le_refl _ | (simp; done) | (simp; omega) | omega) _ | refine Below.setCell ?_ (by first | exact Nat.le_refl _ | (simp; done) | (simp; omega) | omega) _ | refine bExtW ?_ (by first | exact Nat.le_refl _ | (simp; done) | (simp; omega) | omega) | refine Below.trans ?_ (Below.mono (by assumption) (by first | exact Nat.le_refl _ | (simp; done) | (simp; omega) | omega))))⟩
    · obtain ⟨k, rfl⟩ : ∃ k : Nat, n = k := ⟨n.toNat, by omega⟩
      have hk : k < 62 := by omega
      have d1 : decide ((k : Int) > 61) = false := by simp; omega
      have d2 : decide ((61 : Int) < k) = false := by simp; omega
      have d3 : decide (61 < k) = false := by simp; omega
      have hv : sgV (k : Int) = signK k := by unfold sgV; rw [if_neg (by omega)]; rfl
      rw [hv]
      have HG := Lib.hid (fun w => Signs_ok w)
      have hd := sgS_dec ⟨k, hk⟩
      simp only at hd
      obtain ⟨rk, hrk⟩ : ∃ r, signK k = r := ⟨_, rfl⟩
      rw [hrk] at hd ⊢
      have hsp : 0 < (sigS k).size := by rw [sgS_size hk]; exact (By.sgL_len k).1
      clear hv h0 h1 hrk
      go_enter Tryd.func7, Tryd.ntmps7
      go_wp2_with fail
      refine (HG.out _).mono ?_
      rintro r w2 ⟨A, c, rfl, hown, hb2⟩
      have c0 := sigs_cell hown hk
      have lA : LtW A w2 := World.block_lt_of_cell? _ _ c0
      have hbw : Below w.heap.size w w2 := hb2
      have hsz2 : w.heap.size ≤ w2.heap.size := hb2.size
      clear hown hb2 HG
      generalize sigS k = t at *
      go_wp2_with fail
      go_loopw [3] (fun v wr => ∃ (p : Nat), ((p = 0 ∧ v = .int .i32 63) ∨ (p = t.size ∧ v = .int .i32 rk)) ∧ wr.heap[w2.heap.size]? = some (.stringIter t p) ∧ Below w.heap.size w wr) (fun _ wr => t.size - wr.iterPos w2.heap.size)
      case atStart =>
        refine ⟨0, .inl ⟨rfl, rfl⟩, ?_, ?_⟩
        · have := World.iter_heap w2 t 0
          simpa using this
        · first | exact hbw.alloc hsz2 _ | exact (by repeat (first | exact Below.refl _ _ | refine Below.drew ?_ | refine below_drewN ?_ _ | refine Below.alloc ?_ (by first | exact Nat.le_refl _ | (simp; done) | (simp; omega) | omega) _ | refine Below.setCell ?_ (by first | exact Nat.le_refl _ | (simp; done) | (simp; omega) | omega) _ | refine bExtW ?_ (by first | exact Nat.le_refl _ | (simp; done) | (simp; omega) | omega) | refine Below.trans ?_ (Below.mono (by assumption) (by first | exact Nat.le_refl _ | (simp; done) | (simp; omega) | omega))))
      case round =>
        obtain ⟨p, hp, hit, hbr⟩ := hrel
        rcases hp with ⟨rfl, rfl⟩ | ⟨rfl, rfl⟩
        · have hnx : ∀ ty, (Instr.next (.pointer (some ⟨w2.heap.size, 0, none⟩)) true ty).run Tryd.prog wr = _ := fun ty => Lib.run_next_any_at wr w2.heap.size t 0 ty hit hsp
          rw [hd] at hnx
          simp only [Nat.zero_add] at hnx
          have hit2 := Lib.iterAt_heap wr w2.heap.size t 0 t.size hit
          have hbw2 := Lib.below_iterAt hbr (k := w2.heap.size) hsz2 t t.size
          have HM := Lib.hid (show wr.iterPos w2.heap.size = 0 by simp [World.iterPos, hit])
          have HIT := Lib.hid hit2
          have HBW := Lib.hid hbw2
          clear hit hit2 hbw2 hbr
          generalize (wr.iterAt w2.heap.size t t.size) = WI at *
          go_wp2
          go_roundw
          case rel => exact ⟨t.size, .inr ⟨rfl, rfl⟩, HIT.out, HBW.out⟩
          case measure =>
            have e2 : WI.iterPos w2.heap.size = t.size := by simp [World.iterPos, HIT.out]
            rw [e2, HM.out]
            omega
        · have hnx : ∀ ty, (Instr.next (.pointer (some ⟨w2.heap.size, 0, none⟩)) true ty).run Tryd.prog wr = _ := fun ty => Lib.run_next_end_at wr w2.heap.size t t.size ty hit (Nat.lt_irrefl _)
          go_wp2
          go_ret
          exact ⟨rfl, hbr⟩
end Go.Proofs.YtikdnpkcknocaaaDoor
