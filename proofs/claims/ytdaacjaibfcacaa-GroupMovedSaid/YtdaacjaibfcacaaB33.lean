/- Lemmas and contracts of functions (what each call returns, and that it changes nothing that was there) that the proof of a law of this seat uses; each lemma states its own conditions. -/
import Derived.Test.YtdaacjaibfcacaaB31
namespace Go.Proofs.Ytdaacjaibfcacaa
open Go.RowKit
set_option linter.unusedVariables false
set_option linter.unusedSimpArgs false
open Z (torN place pnt Mv To lin okT nrm keepB colP idm md redM both inv)
set_option maxRecDepth 100000 in
set_option maxHeartbeats 8000000 in
theorem complete_bad (G W H : Int) (a : Option Addr) (n c : Nat) (cs : List Int) (t : Int) (f : Bool) (ox oy : Int) (w : World) (hI : IsInts w a n cs) (e : Int) (hT : TorBad e (.agg #[.int .i64 (G), .int .i64 (W), .int .i64 (H), .slice a n c]) a n cs) :
    Calls Try.prog 6 #[.agg #[.int .i64 (G), .int .i64 (W), .int .i64 (H), .slice a n c], .agg #[.int .i64 (t), .bool (f), .int .i64 (ox), .int .i64 (oy)]] w fun r w' => r = .returned (.bool true) ∧ Below w.heap.size w w' := by
  have hb : (e != 0) = true := by simpa using hT.1
  have HM := Lib.hid (fun w hI => Moves_bad G W H a n c cs w hI e hT)
  have HT := Lib.hid hT.2.1
  have HI := Lib.hid hI
  unfold MvPost at HM
  clear hI hT
  go_enter Try.func6, Try.ntmps6
  (go_wp2_with fail; refine (alive3_any _).mono ?_; rintro r w1 ⟨rfl, hb⟩; obtain ⟨E, d, rfl⟩ := bExt hb; clear hb)
  go_wp2_with fail
  refine (HM.out _ (HI.out.below (by repeat (first | exact Below.refl _ _ | refine Below.drew ?_ | refine below_drewN ?_ _ | refine Below.alloc ?_ (by first | exact Nat.le_refl _ | (simp; done) | (simp; omega) | omega) _ | refine Below.setCell ?_ (by first | exact Nat.le_refl _ | (simp; done) | (simp; omega) | omega) _ | refine bExtW ?_ (by first | exact Nat.le_refl _ | (simp; done) | (simp; omega) | omega) | refine Below.trans ?_ (Below.mono (by assumption) (by first | exact Nat.le_refl _ | (simp; done) | (simp; omega) | omega)))))).mono ?_
  rintro r w2 ⟨⟨A, C, rfl, hM⟩, hb2⟩
  obtain ⟨E, d, rfl⟩ := bExt hb2
  clear hM hb2
  (go_wp2_with fail; refine (HT.out _ (HI.out.below (by repeat (first | exact Below.refl _ _ | refine Below.drew ?_ | refine below_drewN ?_ _ | refine Below.alloc ?_ (by first | exact Nat.le_refl _ | (simp; done) | (simp; omega) | omega) _ | refine Below.setCell ?_ (by first | exact Nat.le_refl _ | (simp; done) | (simp; omega) | omega) _ | refine bExtW ?_ (by first | exact Nat.le_refl _ | (simp; done) | (simp; omega) | omega) | refine Below.trans ?_ (Below.mono (by assumption) (by first | exact Nat.le_refl _ | (simp; done) | (simp; omega) | omega)))))).mono ?_; rintro r w1 ⟨rfl, hb⟩; obtain ⟨E, d, rfl⟩ := bExt hb; clear hb)
  go_wp2
  go_ret
  exact ⟨rfl, (by repeat (first | exact Below.refl _ _ | refine Below.drew ?_ | refine below_drewN ?_ _ | refine Below.alloc ?_ (by first | exact Nat.le_refl _ | (simp; done) | (simp; omega) | omega) _ | refine Below.setCell ?_ (by first | exact Nat.le_refl _ | (simp; done) | (simp; omega) | omega) _ | refine bExtW ?_ (by first | exact Nat.le_refl _ | (simp; done) | (simp; omega) | omega) | refine Below.trans ?_ (Below.mono (by assumption) (by first | exact Nat.le_refl _ | (simp; done) | (simp; omega) | omega))))⟩
set_option maxRecDepth 100000 in
set_option maxHeartbeats 8000000 in
theorem complete_wrong (G W H n N : Nat) (a : Option Addr) (c : Nat) (cs : List Int) (t : Int) (f : Bool) (ox oy : Int) (w : World) (hI : IsInts w a n cs) (h : ChOk G W H n cs) (hN : torN W H = N) (h24 : N ≤ 24) (h0 : 0 < N) (ht : (-9223372036854775808 ≤ t ∧ t ≤ 9223372036854775807)) (hx : (-9223372036854775808 ≤ ox ∧ ox ≤ 9223372036854775807)) (hy : (-9223372036854775808 ≤ oy ∧ oy ≤ 9223372036854775807)) (he : wE G t ox oy ≠ 0) :
    Calls Try.prog 6 #[.agg #[.int .i64 (G), .int .i64 (W), .int .i64 (H), .slice a n c], .agg #[.int .i64 (t), .bool (f), .int .i64 (ox), .int .i64 (oy)]] w fun r w' => r = .returned (.bool true) ∧ Below w.heap.size w w' := by
  have HM := Lib.hid (fun w hI => Moves_ok G W H n N a c cs w hI h hN h24 h0)
  have HT := Lib.hid (torOk (a := a) (c := c) h hN h24).1
  have HW := Lib.hid (fun w => Wrong_any G t ox oy f w (by have := h.g; omega) ht hx hy)
  have hb : (wE G t ox oy != 0) = true := by simpa using he
  have HI := Lib.hid hI
  unfold MvPost at HM
  generalize wE G t ox oy = e at *
  clear hI hN h he ht hx hy
  go_enter Try.func6, Try.ntmps6
  (go_wp2_with fail; refine (alive3_any _).mono ?_; rintro r w1 ⟨rfl, hb⟩; obtain ⟨E, d, rfl⟩ := bExt hb; clear hb)
  go_wp2_with fail
  refine (HM.out _ (HI.out.below (by repeat (first | exact Below.refl _ _ | refine Below.drew ?_ | refine below_drewN ?_ _ | refine Below.alloc ?_ (by first | exact Nat.le_refl _ | (simp; done) | (simp; omega) | omega) _ | refine Below.setCell ?_ (by first | exact Nat.le_refl _ | (simp; done) | (simp; omega) | omega) _ | refine bExtW ?_ (by first | exact Nat.le_refl _ | (simp; done) | (simp; omega) | omega) | refine Below.trans ?_ (Below.mono (by assumption) (by first | exact Nat.le_refl _ | (simp; done) | (simp; omega) | omega)))))).mono ?_
  rintro r w2 ⟨⟨A, C, rfl, hM⟩, hb2⟩
  obtain ⟨E, d, rfl⟩ := bExt hb2
  clear hM hb2
  (go_wp2_with fail; refine (HT.out _ (HI.out.below (by repeat (first | exact Below.refl _ _ | refine Below.drew ?_ | refine below_drewN ?_ _ | refine Below.alloc ?_ (by first | exact Nat.le_refl _ | (simp; done) | (simp; omega) | omega) _ | refine Below.setCell ?_ (by first | exact Nat.le_refl _ | (simp; done) | (simp; omega) | omega) _ | refine bExtW ?_ (by first | exact Nat.le_refl _ | (simp; done) | (simp; omega) | omega) | refine Below.trans ?_ (Below.mono (by assumption) (by first | exact Nat.le_refl _ | (simp; done) | (simp; omega) | omega)))))).mono ?_; rintro r w1 ⟨rfl, hb⟩; obtain ⟨E, d, rfl⟩ := bExt hb; clear hb)
  (go_wp2_with fail; refine (HW.out _).mono ?_; rintro r w1 ⟨rfl, hb⟩; obtain ⟨E, d, rfl⟩ := bExt hb; clear hb)
  go_wp2
  go_ret
  exact ⟨rfl, (by repeat (first | exact Below.refl _ _ | refine Below.drew ?_ | refine below_drewN ?_ _ | refine Below.alloc ?_ (by first | exact Nat.le_refl _ | (simp; done) | (simp; omega) | omega) _ | refine Below.setCell ?_ (by first | exact Nat.le_refl _ | (simp; done) | (simp; omega) | omega) _ | refine bExtW ?_ (by first | exact Nat.le_refl _ | (simp; done) | (simp; omega) | omega) | refine Below.trans ?_ (Below.mono (by assumption) (by first | exact Nat.le_refl _ | (simp; done) | (simp; omega) | omega))))⟩
theorem has_keep {G W H n N : Nat} {cs : List Int} {m : Mv} (h : ChOk G W H n cs) (hN : torN W H = N) (h24 : N ≤ 24) (h0 : 0 < N) (hm : m.t < G) : hasB (Z.movesL W H cs G N) (redM N m) = keepB W H cs G N m := by
  have hd := Z.torN_dvd W H
  rw [hN] at hd
  obtain ⟨grp, per, _, _⟩ := moves_facts h hN h24 h0
  rw [Bool.eq_iff_iff, Z.keepB_iff h0 hd.1 hd.2]
  unfold hasB
  rw [decide_eq_true_iff]
  constructor
  · intro hmem
    exact (Z.keep_red per m).1 (grp.keep hmem)
  · intro hk
    exact grp.red (by omega) per (show okT (G : Int) m by unfold okT; omega) hk
theorem keepB_all {W H N : Nat} {cs : List Int} {g : Int} {m : Mv} {b : Bool} (h : b = true ↔ ∀ j, j < N * N → colP W H cs (pnt N j) = colP W H cs (To g m (pnt N j))) : b = keepB W H cs g N m := by
  rw [Bool.eq_iff_iff, h]
  unfold keepB
  rw [List.all_eq_true]
  exact ⟨fun h k hk => decide_eq_true (h k (List.mem_range.1 hk)), fun h k hk => of_decide_eq_true (h k (List.mem_range.2 hk))⟩
set_option maxRecDepth 100000 in
set_option maxHeartbeats 8000000 in
theorem complete_ok (G W H n N t : Nat) (f : Bool) (ox oy : Int) (a : Option Addr) (c : Nat) (cs : List Int) (w : World) (hI : IsInts w a n cs) (h : ChOk G W H n cs) (hN : torN W H = N) (h24 : N ≤ 24) (h0 : 0 < N) (hx : (-9223372036854775808 ≤ ox ∧ ox ≤ 9223372036854775807)) (hy : (-9223372036854775808 ≤ oy ∧ oy ≤ 9223372036854775807)) (he : wE G t ox oy = 0) :
    Calls Try.prog 6 #[.agg #[.int .i64 (G), .int .i64 (W), .int .i64 (H), .slice a n c], .agg #[.int .i64 (t), .bool (f), .int .i64 (ox), .int .i64 (oy)]] w fun r w' => r = .returned (.bool true) ∧ Below w.heap.size w w' := by
  have hg : (G : Int) = 4 ∨ (G : Int) = 6 := by have := h.g; omega
  obtain ⟨_, hs, n', hn', htl⟩ := wE_zero he
  have htG : t < G := by omega
  have ht6 : t ≤ 6 := by have := h.g; omega
  have HM := Lib.hid (fun w hI => Moves_ok G W H n N a c cs w hI h hN h24 h0)
  have HT := Lib.hid (torOk (a := a) (c := c) h hN h24).1
  have HW := Lib.hid (fun w => Wrong_any G t ox oy f w (by omega) (by omega) hx hy)
  rw [he] at HW
  have HK := Lib.hid (fun w hI => Keeps_ok G W H n N t f ox oy a c cs w hI h hN h24 h0 hx hy he)
  have hlen := (moves_facts h hN h24 h0).2.2.2
  have HHK := Lib.hid (has_keep (m := ⟨t, f, (ox, oy)⟩) h hN h24 h0 htG)
  have HTO := Lib.hid (fun (x y : Int) w (h1 : 0 ≤ x ∧ x ≤ 24) (h2 : 0 ≤ y ∧ y ≤ 24) => rTo_any G x y ox oy t f w hg ht6 (Int.le_trans (Z.nrm_bd hg (a := (x,y)) (B := 24) (by simp only; omega) (by simp only; omega)) (by decide)) (by omega) (by omega))
  have HTB := Lib.hid (fun (x y : Int) (h1 : 0 ≤ x ∧ x ≤ 24) (h2 : 0 ≤ y ∧ y ≤ 24) => lin_small hg t f h1 h2)
  have HAT := Lib.hid (fun (x y : Int) w hI hx hy => At_ok G W H n a c cs x y w hI h.g h.w1 h.w2 h.h1 h.h2 h.hn h.cr hx hy)
  have HFIN : Hid (∀ b : Bool, (b = true ↔ ∀ j, j < N * N → colP W H cs (pnt N j) = colP W H cs (To G ⟨t, f, (ox, oy)⟩ (pnt N j))) → b = keepB W H cs G N ⟨t, f, (ox, oy)⟩) := Lib.hid fun b hb => keepB_all hb
  have HI := Lib.hid hI
  unfold MvPost at HM
  generalize Z.movesL W H cs G N = L at *
  generalize keepB W H cs G N ⟨t, f, (ox, oy)⟩ = kb at *
  clear hI hN h he hn' htl htG ht6 hg
  go_enter Try.func6, Try.ntmps6
  (go_wp2_with fail; refine (alive3_any _).mono ?_; rintro r w1 ⟨rfl, hb⟩; obtain ⟨E, d, rfl⟩ := bExt hb; clear hb)
  go_wp2_with fail
  refine (HM.out _ (HI.out.below (by repeat (first | exact Below.refl _ _ | refine Below.drew ?_ | refine below_drewN ?_ _ | refine Below.alloc ?_ (by first | exact Nat.le_refl _ | (simp; done) | (simp; omega) | omega) _ | refine Below.setCell ?_ (by first | exact Nat.le_refl _ | (simp; done) | (simp; omega) | omega) _ | refine bExtW ?_ (by first | exact Nat.le_refl _ | (simp; done) | (simp; omega) | omega) | refine Below.trans ?_ (Below.mono (by assumption) (by first | exact Nat.le_refl _ | (simp; done) | (simp; omega) | omega)))))).mono ?_
  rintro r w2 ⟨⟨A, C, rfl, hM⟩, hb2⟩
  have HMV := Lib.hid hM.moves
  have bx0 : w2.cell? ⟨w.heap.size, 0, none⟩ = some (.int .i64 (G)) := bCs hb2 (by simp [go_sem])
  have bx1 : w2.cell? ⟨w.heap.size, 1, none⟩ = some (.int .i64 (W)) := bCs hb2 (by simp [go_sem])
  have bx2 : w2.cell? ⟨w.heap.size, 2, none⟩ = some (.int .i64 (H)) := bCs hb2 (by simp [go_sem])
  have bx3 : w2.cell? ⟨w.heap.size, 3, none⟩ = some (.slice a n c) := bCs hb2 (by simp [go_sem])
  have lbx : LtW w.heap.size w2 := World.block_lt_of_cell? _ _ bx0
  have hbw : Below w.heap.size w w2 := (by repeat (first | exact Below.refl _ _ | refine Below.drew ?_ | refine below_drewN ?_ _ | refine Below.alloc ?_ (by first | exact Nat.le_refl _ | (simp; done) | (simp; omega) | omega) _ | refine Below.setCell ?_ (by first | exact Nat.le_refl _ | (simp; done) | (simp; omega) | omega) _ | refine bExtW ?_ (by first | exact Nat.le_refl _ | (simp; done) | (simp; omega) | omega) | refine Below.trans ?_ (Below.mono (by assumption) (by first | exact Nat.le_refl _ | (simp; done) | (simp; omega) | omega))))
  have hsz2 : w.heap.size ≤ w2.heap.size := hbw.size
  have fx0 : w2.cell? ⟨w.heap.size + 1, 0, none⟩ = some (.int .i64 (t)) := bCs hb2 (by simp [go_sem])
  have fx1 : w2.cell? ⟨w.heap.size + 1, 1, none⟩ = some (.bool f) := bCs hb2 (by simp [go_sem])
  have fx2 : w2.cell? ⟨w.heap.size + 1, 2, none⟩ = some (.int .i64 (ox)) := bCs hb2 (by simp [go_sem])
  have fx3 : w2.cell? ⟨w.heap.size + 1, 3, none⟩ = some (.int .i64 (oy)) := bCs hb2 (by simp [go_sem])
  have lfx : LtW (w.heap.size + 1) w2 := World.block_lt_of_cell? _ _ fx0
  clear hM hb2
  have HHAS := Lib.hid (fun w hL => has_ok L L.length N t f ox oy A C w hL (by omega) h0 (by omega) hx hy)
  rw [HHK.out] at HHAS
  (go_wp2_with fail; refine (HT.out _ (HI.out.below (by repeat (first | exact Below.refl _ _ | refine Below.drew ?_ | refine below_drewN ?_ _ | refine Below.alloc ?_ (by first | exact Nat.le_refl _ | (simp; done) | (simp; omega) | omega) _ | refine Below.setCell ?_ (by first | exact Nat.le_refl _ | (simp; done) | (simp; omega) | omega) _ | refine bExtW ?_ (by first | exact Nat.le_refl _ | (simp; done) | (simp; omega) | omega) | refine Below.trans ?_ (Below.mono (by assumption) (by first | exact Nat.le_refl _ | (simp; done) | (simp; omega) | omega)))))).mono ?_; rintro r w1 ⟨rfl, hb⟩; obtain ⟨E, d, rfl⟩ := bExt hb; clear hb)
  (go_wp2_with fail; refine (HW.out _).mono ?_; rintro r w1 ⟨rfl, hb⟩; obtain ⟨E, d, rfl⟩ := bExt hb; clear hb)
  go_wp2_with fail
  go_loopw [9, 10] (fun av yv wr => ∃ (b : Bool) (y : Nat) (E : Array Obj) (d : Nat), y ≤ N ∧ av = .bool b ∧ yv = .int .i64 y ∧ Hid (b = true ↔ ∀ j, j < y * N → colP W H cs (pnt N j) = colP W H cs (To G ⟨t, f, (ox, oy)⟩ (pnt N j))) ∧ wr = extW w2 E d) (fun _ yv _ => N - (intOf yv).toNat)
  case atStart => exact ⟨true, 0, _, _, by omega, rfl, rfl, Lib.hid ⟨fun _ j h => absurd h (by omega), fun _ => rfl⟩, by first | rfl | (simp only [extW_extW]; rfl)⟩
  case round =>
    obtain ⟨b, y, E1, d1, hy1, rfl, rfl, HB, rfl⟩ := hrel
    by_cases hym : y < N
    · have vy : IntKind.i64.wrap ((y : Int) + 1) = (y : Int) + 1 := IntWalk.i64_in _ (by omega)
      have dy : decide ((y : Int) < (N : Int)) = true := by simpa using hym
      go_wp2_with fail
      go_loopw [9, 11] (fun av xv wr => ∃ (b : Bool) (x : Nat) (E : Array Obj) (d : Nat), x ≤ N ∧ av = .bool b ∧ xv = .int .i64 x ∧ Hid (b = true ↔ ∀ j, j < y * N + x → colP W H cs (pnt N j) = colP W H cs (To G ⟨t, f, (ox, oy)⟩ (pnt N j))) ∧ wr = extW w2 E d) (fun _ xv _ => N - (intOf xv).toNat)
      case atStart => exact ⟨b, 0, E1, d1, by omega, rfl, rfl, HB, rfl⟩
      case round =>
        clear HB
        obtain ⟨b, x, E2, d2, hx1, rfl, rfl, HB, rfl⟩ := hrel
        by_cases hxm : x < N
        · have vx : IntKind.i64.wrap ((x : Int) + 1) = (x : Int) + 1 := IntWalk.i64_in _ (by omega)
          have dx : decide ((x : Int) < (N : Int)) = true := by simpa using hxm
          have HTO1 := Lib.hid (fun w => HTO.out (x : Int) (y : Int) w (by omega) (by omega))
          have hb := HTB.out (x : Int) (y : Int) (by omega) (by omega)
          have hpb : (-1050000 ≤ (To G ⟨t, f, (ox, oy)⟩ ((x : Int), (y : Int))).1 ∧ (To G ⟨t, f, (ox, oy)⟩ ((x : Int), (y : Int))).1 ≤ 1050000) ∧ (-1050000 ≤ (To G ⟨t, f, (ox, oy)⟩ ((x : Int), (y : Int))).2 ∧ (To G ⟨t, f, (ox, oy)⟩ ((x : Int), (y : Int))).2 ≤ 1050000) := by
            unfold To Z.add; simp only; omega
          have HNX : Hid (∀ b' : Bool, (b' = true ↔ (b = true ∧ colP W H cs ((x : Int), (y : Int)) = colP W H cs (To G ⟨t, f, (ox, oy)⟩ ((x : Int), (y : Int))))) → (b' = true ↔ ∀ j, j < y * N + (x + 1) → colP W H cs (pnt N j) = colP W H cs (To G ⟨t, f, (ox, oy)⟩ (pnt N j)))) := Lib.hid fun b' hb' => by
            rw [hb', HB.out]
            constructor
            · rintro ⟨h1, h2⟩ j hj
              by_cases e : j = y * N + x
              · rw [e, pnt_at hxm]; exact h2
              · exact h1 j (by omega)
            · intro h1
              refine ⟨fun j hj => h1 j (by omega), ?_⟩
              have := h1 (y * N + x) (by omega)
              rwa [pnt_at hxm] at this
          clear hb HTO HTB HB HFIN
          generalize To G ⟨t, f, (ox, oy)⟩ ((x : Int), (y : Int)) = p at *
          obtain ⟨px, py⟩ := p
          have HC1 := Lib.hid (fun w hI => HAT.out (x : Int) (y : Int) w hI (by omega) (by omega))
          have HC2 := Lib.hid (fun w hI => HAT.out px py w hI (by simp only at hpb; omega) (by simp only at hpb; omega))
          have e1 : cellAt W H cs (x : Int) (y : Int) = colP W H cs ((x : Int), (y : Int)) := rfl
          have e2 : cellAt W H cs px py = colP W H cs (px, py) := rfl
          rw [e1] at HC1
          rw [e2] at HC2
          clear e1 e2 HAT hpb
          generalize colP W H cs ((x : Int), (y : Int)) = q1 at *
          generalize colP W H cs (px, py) = q2 at *
          obtain ⟨r, hr⟩ : ∃ r, (q1 == q2) = r := ⟨_, rfl⟩
          have HNX2 := Lib.hid (HNX.out (b && r) (by rw [Bool.and_eq_true, ← hr, beq_iff_eq]))
          clear HNX
          cases b with
          | true =>
            (go_wp2_with fail; refine (HC1.out _ (HI.out.below (by repeat (first | exact Below.refl _ _ | refine Below.drew ?_ | refine below_drewN ?_ _ | refine Below.alloc ?_ (by first | exact Nat.le_refl _ | (simp; done) | (simp; omega) | omega) _ | refine Below.setCell ?_ (by first | exact Nat.le_refl _ | (simp; done) | (simp; omega) | omega) _ | refine bExtW ?_ (by first | exact Nat.le_refl _ | (simp; done) | (simp; omega) | omega) | refine Below.trans ?_ (Below.mono (by assumption) (by first | exact Nat.le_refl _ | (simp; done) | (simp; omega) | omega)))))).mono ?_; rintro r w1 ⟨rfl, hb⟩; obtain ⟨E, d, rfl⟩ := bExt hb; clear hb)
            go_wp2_with fail
            (refine wp_region_ext (by kernel_rfl) (by kernel_rfl) ?_; (repeat (first | ((with_reducible refine ext_step (fun K hK => ?_)); go_simp; first | (refine hK _ ?_; clear hK K) | (apply Exists.intro; refine ⟨fun _ _ => ?_, hK _ ?_⟩; fail; clear hK K)))); ((with_reducible refine ext_step (fun K hK => ?_)); go_simp; (apply Exists.intro; refine ⟨fun _ _ => ?_, hK _ ?_⟩; (go_at_call 31; exact extOf (HTO1.out _)); clear hK K)); (repeat (first | ((with_reducible refine ext_step (fun K hK => ?_)); go_simp; first | (refine hK _ ?_; clear hK K) | (apply Exists.intro; refine ⟨fun _ _ => ?_, hK _ ?_⟩; fail; clear hK K)))); ((with_reducible refine ext_step (fun K hK => ?_)); go_simp; (apply Exists.intro; refine ⟨fun _ _ => ?_, hK _ ?_⟩; (go_at_call 24; exact extOf (HC2.out _ (HI.out.below (by repeat (first | exact Below.refl _ _ | refine Below.drew ?_ | refine below_drewN ?_ _ | refine Below.alloc ?_ (by first | exact Nat.le_refl _ | (simp; done) | (simp; omega) | omega) _ | refine Below.setCell ?_ (by first | exact Nat.le_refl _ | (simp; done) | (simp; omega) | omega) _ | refine bExtW ?_ (by first | exact Nat.le_refl _ | (simp; done) | (simp; omega) | omega) | refine Below.trans ?_ (Below.mono (by assumption) (by first | exact Nat.le_refl _ | (simp; done) | (simp; omega) | omega))))))); clear hK K)); (repeat (first | ((with_reducible refine ext_step (fun K hK => ?_)); go_simp; first | (refine hK _ ?_; clear hK K) | (apply Exists.intro; refine ⟨fun _ _ => ?_, hK _ ?_⟩; fail; clear hK K)))); refine wpQuiet_nil ?_; intro E d)
            go_wp2
            go_roundw
            case rel => exact ⟨r, x + 1, _, _, by omega, rfl, by go_num, by simpa using HNX2, by simp only [extW_extW]; rfl⟩
            case measure => simp [intOf]; omega
          | false =>
            (go_wp2_with fail; refine (HC1.out _ (HI.out.below (by repeat (first | exact Below.refl _ _ | refine Below.drew ?_ | refine below_drewN ?_ _ | refine Below.alloc ?_ (by first | exact Nat.le_refl _ | (simp; done) | (simp; omega) | omega) _ | refine Below.setCell ?_ (by first | exact Nat.le_refl _ | (simp; done) | (simp; omega) | omega) _ | refine bExtW ?_ (by first | exact Nat.le_refl _ | (simp; done) | (simp; omega) | omega) | refine Below.trans ?_ (Below.mono (by assumption) (by first | exact Nat.le_refl _ | (simp; done) | (simp; omega) | omega)))))).mono ?_; rintro r w1 ⟨rfl, hb⟩; obtain ⟨E, d, rfl⟩ := bExt hb; clear hb)
            go_wp2_with fail
            (refine wp_region_ext (by kernel_rfl) (by kernel_rfl) ?_; (repeat (first | ((with_reducible refine ext_step (fun K hK => ?_)); go_simp; first | (refine hK _ ?_; clear hK K) | (apply Exists.intro; refine ⟨fun _ _ => ?_, hK _ ?_⟩; fail; clear hK K)))); ((with_reducible refine ext_step (fun K hK => ?_)); go_simp; (apply Exists.intro; refine ⟨fun _ _ => ?_, hK _ ?_⟩; (go_at_call 31; exact extOf (HTO1.out _)); clear hK K)); (repeat (first | ((with_reducible refine ext_step (fun K hK => ?_)); go_simp; first | (refine hK _ ?_; clear hK K) | (apply Exists.intro; refine ⟨fun _ _ => ?_, hK _ ?_⟩; fail; clear hK K)))); ((with_reducible refine ext_step (fun K hK => ?_)); go_simp; (apply Exists.intro; refine ⟨fun _ _ => ?_, hK _ ?_⟩; (go_at_call 24; exact extOf (HC2.out _ (HI.out.below (by repeat (first | exact Below.refl _ _ | refine Below.drew ?_ | refine below_drewN ?_ _ | refine Below.alloc ?_ (by first | exact Nat.le_refl _ | (simp; done) | (simp; omega) | omega) _ | refine Below.setCell ?_ (by first | exact Nat.le_refl _ | (simp; done) | (simp; omega) | omega) _ | refine bExtW ?_ (by first | exact Nat.le_refl _ | (simp; done) | (simp; omega) | omega) | refine Below.trans ?_ (Below.mono (by assumption) (by first | exact Nat.le_refl _ | (simp; done) | (simp; omega) | omega))))))); clear hK K)); (repeat (first | ((with_reducible refine ext_step (fun K hK => ?_)); go_simp; first | (refine hK _ ?_; clear hK K) | (apply Exists.intro; refine ⟨fun _ _ => ?_, hK _ ?_⟩; fail; clear hK K)))); refine wpQuiet_nil ?_; intro E d)
            go_wp2
            go_roundw
            case rel => exact ⟨false, x + 1, _, _, by omega, rfl, by go_num, by simpa using HNX2, by simp only [extW_extW]; rfl⟩
            case measure => simp [intOf]; omega
        · obtain rfl : x = N := by omega
          have dx : decide ((x : Int) < (x : Int)) = false := by simp
          rw [← Nat.succ_mul] at HB
          clear HTO HTB HFIN HAT
          go_wp2
          go_roundw
          case rel => exact ⟨b, y + 1, _, _, by omega, rfl, by go_num, HB, rfl⟩
          case measure => simp [intOf]; omega
    · obtain rfl : y = N := by omega
      have dy : decide ((y : Int) < (y : Int)) = false := by simp
      obtain rfl : b = kb := HFIN.out b HB.out
      clear HTO HTB HFIN HAT HB
      (go_wp2_with fail; refine (HK.out _ (HI.out.below (by repeat (first | exact Below.refl _ _ | refine Below.drew ?_ | refine below_drewN ?_ _ | refine Below.alloc ?_ (by first | exact Nat.le_refl _ | (simp; done) | (simp; omega) | omega) _ | refine Below.setCell ?_ (by first | exact Nat.le_refl _ | (simp; done) | (simp; omega) | omega) _ | refine bExtW ?_ (by first | exact Nat.le_refl _ | (simp; done) | (simp; omega) | omega) | refine Below.trans ?_ (Below.mono (by assumption) (by first | exact Nat.le_refl _ | (simp; done) | (simp; omega) | omega)))))).mono ?_; rintro r w1 ⟨rfl, hb⟩; obtain ⟨E, d, rfl⟩ := bExt hb; clear hb)
      cases b with
      | true =>
        (go_wp2_with fail; refine (HHAS.out _ (HMV.out.below (by repeat (first | exact Below.refl _ _ | refine Below.drew ?_ | refine below_drewN ?_ _ | refine Below.alloc ?_ (by first | exact Nat.le_refl _ | (simp; done) | (simp; omega) | omega) _ | refine Below.setCell ?_ (by first | exact Nat.le_refl _ | (simp; done) | (simp; omega) | omega) _ | refine bExtW ?_ (by first | exact Nat.le_refl _ | (simp; done) | (simp; omega) | omega) | refine Below.trans ?_ (Below.mono (by assumption) (by first | exact Nat.le_refl _ | (simp; done) | (simp; omega) | omega)))))).mono ?_; rintro r w1 ⟨rfl, hb⟩; obtain ⟨E, d, rfl⟩ := bExt hb; clear hb)
        go_wp2
        go_ret
        exact ⟨rfl, (by repeat (first | exact Below.refl _ _ | refine Below.drew ?_ | refine below_drewN ?_ _ | refine Below.alloc ?_ (by first | exact Nat.le_refl _ | (simp; done) | (simp; omega) | omega) _ | refine Below.setCell ?_ (by first | exact Nat.le_refl _ | (simp; done) | (simp; omega) | omega) _ | refine bExtW ?_ (by first | exact Nat.le_refl _ | (simp; done) | (simp; omega) | omega) | refine Below.trans ?_ (Below.mono (by assumption) (by first | exact Nat.le_refl _ | (simp; done) | (simp; omega) | omega))))⟩
      | false =>
        (go_wp2_with fail; refine (HHAS.out _ (HMV.out.below (by repeat (first | exact Below.refl _ _ | refine Below.drew ?_ | refine below_drewN ?_ _ | refine Below.alloc ?_ (by first | exact Nat.le_refl _ | (simp; done) | (simp; omega) | omega) _ | refine Below.setCell ?_ (by first | exact Nat.le_refl _ | (simp; done) | (simp; omega) | omega) _ | refine bExtW ?_ (by first | exact Nat.le_refl _ | (simp; done) | (simp; omega) | omega) | refine Below.trans ?_ (Below.mono (by assumption) (by first | exact Nat.le_refl _ | (simp; done) | (simp; omega) | omega)))))).mono ?_; rintro r w1 ⟨rfl, hb⟩; obtain ⟨E, d, rfl⟩ := bExt hb; clear hb)
        go_wp2
        go_ret
        exact ⟨rfl, (by repeat (first | exact Below.refl _ _ | refine Below.drew ?_ | refine below_drewN ?_ _ | refine Below.alloc ?_ (by first | exact Nat.le_refl _ | (simp; done) | (simp; omega) | omega) _ | refine Below.setCell ?_ (by first | exact Nat.le_refl _ | (simp; done) | (simp; omega) | omega) _ | refine bExtW ?_ (by first | exact Nat.le_refl _ | (simp; done) | (simp; omega) | omega) | refine Below.trans ?_ (Below.mono (by assumption) (by first | exact Nat.le_refl _ | (simp; done) | (simp; omega) | omega))))⟩
theorem complete_walk (G W H : Int) (a : Option Addr) (n c : Nat) (cs : List Int) (t : Int) (f : Bool) (ox oy : Int) (w : World) (hI : IsInts w a n cs) (h0 : (-9223372036854775808 ≤ G ∧ G ≤ 9223372036854775807)) (h1 : (-9223372036854775808 ≤ W ∧ W ≤ 9223372036854775807)) (h2 : (-9223372036854775808 ≤ H ∧ H ≤ 9223372036854775807)) (h3 : n ≤ 9223372036854775807) (ht : (-9223372036854775808 ≤ t ∧ t ≤ 9223372036854775807)) (hx : (-9223372036854775808 ≤ ox ∧ ox ≤ 9223372036854775807)) (hy : (-9223372036854775808 ≤ oy ∧ oy ≤ 9223372036854775807)) :
    Calls Try.prog 6 #[.agg #[.int .i64 (G), .int .i64 (W), .int .i64 (H), .slice a n c], .agg #[.int .i64 (t), .bool (f), .int .i64 (ox), .int .i64 (oy)]] w fun r w' => r = .returned (.bool true) ∧ Below w.heap.size w w' := by
  rcases chart_cases G W H a n c cs h0 h1 h2 h3 with ⟨e, hT⟩ | ⟨G', W', H', N, rfl, rfl, rfl, h, hN, hp, h24⟩
  · exact complete_bad G W H a n c cs t f ox oy w hI e hT
  · by_cases he : wE G' t ox oy = 0
    · obtain ⟨_, _, t', rfl, _⟩ := wE_zero he
      exact complete_ok G' W' H' n N t' f ox oy a c cs w hI h hN h24 hp hx hy he
    · exact complete_wrong G' W' H' n N a c cs t f ox oy w hI h hN h24 hp ht hx hy he
end Go.Proofs.Ytdaacjaibfcacaa
