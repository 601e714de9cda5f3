/- Lemmas and contracts of functions (what each call returns, and that it changes nothing that was there) that the proof of a law of this seat uses; each lemma states its own conditions. -/
import Derived.Test.YtdaacjaibfcacaaB39
namespace Go.Proofs.Ytdaacjaibfcacaa
open Go.RowKit
set_option linter.unusedVariables false
set_option linter.unusedSimpArgs false
open Z (torN place pnt Mv To lin okT nrm keepB colP idm md redM firstB rankP act stK Sid Upw)
theorem mv_wf7 {m : Mv} {g : Int} (hg : g = 4 ∨ g = 6) (ht : okT g m) : m.t ≤ 6 := by unfold okT at ht; omega
/-- Is it ahead of where the first i moves take it? -/
def frI (g : Int) (n : Nat) (L : List Mv) (p i : Nat) : Bool := (L.take i).all fun f => decide (p ≤ rankP n (act g n f (pnt n p)))
theorem frI_succ {g : Int} {n : Nat} {L : List Mv} {p i : Nat} (hi : i < L.length) : frI g n L p (i + 1) = (frI g n L p i && decide (p ≤ rankP n (act g n (L.getD i idm) (pnt n p)))) := by
  unfold frI
  rw [List.take_add_one, List.getElem?_eq_getElem hi, List.all_append, List.getD_eq_getElem?_getD, List.getElem?_eq_getElem hi]
  simp
theorem frI_all (g : Int) (n : Nat) (L : List Mv) (p : Nat) : frI g n L p L.length = firstB g n L (pnt n p) := by
  unfold frI Z.firstB
  rw [List.take_length, Z.rank_pnt]
set_option maxRecDepth 100000 in
set_option maxHeartbeats 8000000 in
theorem rDomain_ok (G W H n N : Nat) (a : Option Addr) (c : Nat) (cs : List Int) (w : World) (hI : IsInts w a n cs) (h : ChOk G W H n cs) (hN : torN W H = N) (h24 : N ≤ 24) (h0 : 0 < N) (hlen : (Z.movesL W H cs G N).length ≤ 10000) :
    Calls Try.prog 43 #[.agg #[.int .i64 (G), .int .i64 (W), .int .i64 (H), .slice a n c], .int .i64 (N)] w fun r w' => (∃ A C, r = .returned (.slice A (firstsP G N (Z.movesL W H cs G N) (N * N)).length C) ∧ OwnP w' w.heap.size A (firstsP G N (Z.movesL W H cs G N) (N * N)).length C (firstsP G N (Z.movesL W H cs G N) (N * N))) ∧ Below w.heap.size w w' := by
  have hg : (G : Int) = 4 ∨ (G : Int) = 6 := by have := h.g; omega
  have hd := Z.torN_dvd W H
  rw [hN] at hd
  have grp := Z.movesL_grp (cs := cs) (g := (G : Int)) h0 hd.1 hd.2
  have HA := Lib.hid (fun w hI => rAll_ok G W H n N a c cs w hI h h24)
  have HI := Lib.hid hI
  generalize Z.movesL W H cs G N = L at *
  have HTO := Lib.hid (fun (m : Mv) (x y : Int) w (hm : m ∈ L) (hx : 0 ≤ x ∧ x ≤ 24) (hy : 0 ≤ y ∧ y ≤ 24) => (by
    have hb := grp.bd hm
    have ho := grp.ok hm
    exact (⟨rTo_any G x y m.o.1 m.o.2 m.t m.f w hg (mv_wf7 hg ho) (Int.le_trans (Z.nrm_bd hg (a := (x,y)) (B := 24) (by simp only; omega) (by simp only; omega)) (by decide)) (by omega) (by omega), To_small hg m.t m.f hx hy (ox := m.o.1) (oy := m.o.2) (by omega) (by omega)⟩ : _ ∧ _)))
  have HON := Lib.hid (fun x y w hx hy => On_ok N x y w h0 (by omega) hx hy)
  have HPS := Lib.hid (fun p => firstsP_succ G N L p)
  have HPL := Lib.hid (fun p => firstsP_len (G : Int) N L p)
  obtain ⟨RES, hRES⟩ : ∃ R, firstsP G N L (N * N) = R := ⟨_, rfl⟩
  rw [hRES]
  have HRES := Lib.hid hRES
  clear hI hN hd h grp hg hRES
  go_enter Try.func43, Try.ntmps43
  go_wp2_with fail
  refine (HA.out _ (HI.out.below (by repeat (first | exact Below.refl _ _ | refine Below.drew ?_ | refine below_drewN ?_ _ | refine Below.alloc ?_ (by first | exact Nat.le_refl _ | (simp; done) | (simp; omega) | omega) _ | refine Below.setCell ?_ (by first | exact Nat.le_refl _ | (simp; done) | (simp; omega) | omega) _ | refine bExtW ?_ (by first | exact Nat.le_refl _ | (simp; done) | (simp; omega) | omega) | refine Below.trans ?_ (Below.mono (by assumption) (by first | exact Nat.le_refl _ | (simp; done) | (simp; omega) | omega)))))).mono ?_
  rintro r W1 ⟨⟨A, C, rfl, hM⟩, hb2⟩
  have HMV := Lib.hid hM.moves
  have cb0 : W1.cell? ⟨w.heap.size, 0, none⟩ = some (.int .i64 (G)) := bCs hb2 (by simp [go_sem])
  have hs0 : w.heap.size < W1.heap.size := World.block_lt_of_cell? _ _ cb0
  have hbw : Below w.heap.size w W1 := ((Below.refl _ _).alloc (Nat.le_refl _) _).trans (hb2.mono (by simp))
  have HG0 := Lib.hid (GL.nil W1 38 2)
  clear hM hb2 HA
  go_wp2_with fail
  go_loopw [5, 7] (fun ov yv wr => ∃ (y : Nat), y ≤ N ∧ yv = .int .i64 y ∧ Hid (GL 38 2 (ptsK (firstsP G N L (y * N))) (firstsP G N L (y * N)).length W1 ov wr)) (fun _ yv _ => N - (intOf yv).toNat)
  case atStart => exact ⟨0, by omega, rfl, by rw [Nat.zero_mul]; exact HG0⟩
  case round =>
    clear HG0
    obtain ⟨y, hy, rfl, HG⟩ := hrel
    by_cases hyn : y < N
    · have vy : IntKind.i64.wrap ((y : Int) + 1) = (y : Int) + 1 := IntWalk.i64_in _ (by omega)
      have dy : decide ((y : Int) < (N : Int)) = true := by simpa using hyn
      go_wp2_with fail
      obtain ⟨wo, rfl⟩ : ∃ wo : World, wo = wr := ⟨_, rfl⟩
      go_loopw [5, 8] (fun ov xv wr => ∃ (x : Nat), x ≤ N ∧ xv = .int .i64 x ∧ Hid (GL 38 2 (ptsK (firstsP G N L (y * N + x))) (firstsP G N L (y * N + x)).length W1 ov wr)) (fun _ xv _ => N - (intOf xv).toNat)
      case atStart => exact ⟨0, by omega, rfl, HG⟩
      case round =>
        clear HG
        obtain ⟨x, hx, rfl, HG⟩ := hrel
        by_cases hxn : x < N
        · have vx : IntKind.i64.wrap ((x : Int) + 1) = (x : Int) + 1 := IntWalk.i64_in _ (by omega)
          have dx : decide ((x : Int) < (N : Int)) = true := by simpa using hxn
          have k0 := bCs HG.out.bel cb0
          have lk : LtW w.heap.size wr := World.block_lt_of_cell? _ _ k0
          have HMW := Lib.hid (HMV.out.below HG.out.bel)
          have hQ6 : y * N + x < 576 := Nat.lt_of_lt_of_le (row_lt hxn hyn) (Nat.mul_le_mul h24 h24)
          obtain ⟨Q1, hQ1⟩ : ∃ Q, y * N = Q := ⟨_, rfl⟩
          obtain ⟨Q, hQ⟩ : ∃ Q, Q1 + x = Q := ⟨_, rfl⟩
          have p1 : (y : Int) * (N : Int) = (Q1 : Int) := by rw [← hQ1]; push_cast; rfl
          have p2 : (Q1 : Int) + (x : Int) = (Q : Int) := by rw [← hQ]; push_cast; rfl
          have r1 : IntKind.i64.wrap (Q1 : Int) = (Q1 : Int) := IntWalk.i64_in _ (by omega)
          have r2 : IntKind.i64.wrap (Q : Int) = (Q : Int) := IntWalk.i64_in _ (by omega)
          have hQQ : y * N + x = Q := by rw [hQ1, hQ]
          have HQQ := Lib.hid hQQ
          have HPT : Hid (pnt N (y * N + x) = ((x : Int), (y : Int))) := Lib.hid (pnt_at hxn)
          clear hQ1 hQ hQQ
          go_wp2_with fail
          obtain ⟨wo, rfl⟩ : ∃ wo : World, wo = wr := ⟨_, rfl⟩
          go_loopw [9, 28] (fun bv iv wr => ∃ (b : Bool) (i : Nat) (E : Array Obj) (d : Nat), i ≤ L.length ∧ bv = .bool b ∧ iv = .int .i64 i ∧ Hid (b = frI G N L (y * N + x) i) ∧ wr = extW wo E d) (fun _ iv _ => L.length - (intOf iv).toNat)
          case atStart => exact ⟨true, 0, #[], _, by omega, rfl, rfl, Lib.hid rfl, extW_zero _⟩
          case round =>
            obtain ⟨b, i, E0, d0, hi, rfl, rfl, HFI, rfl⟩ := hrel
            by_cases hil : i < L.length
            · have di : decide ((i : Int) < (L.length : Int)) = true := by simpa using hil
              have vi : IntKind.i64.wrap ((i : Int) + 1) = (i : Int) + 1 := IntWalk.i64_in _ (by omega)
              obtain ⟨mb, mo, rfl, hb, hc⟩ := HMW.out.2 (by omega)
              obtain ⟨c0, c1, c2, c3⟩ := hc i hil
              have lmb : LtW mb wo := hb
              have hmem : L.getD i idm ∈ L := by rw [List.getD_eq_getElem?_getD, List.getElem?_eq_getElem hil]; exact List.getElem_mem hil
              have HFS := Lib.hid (frI_succ (g := (G : Int)) (n := N) (p := y * N + x) hil)
              obtain ⟨m, hm⟩ : ∃ m, L.getD i idm = m := ⟨_, rfl⟩
              rw [hm] at c0 c1 c2 c3 hmem HFS
              have HTO2 := Lib.hid (fun w => HTO.out m (x : Int) (y : Int) w hmem (by omega) (by omega))
              have hbd := (HTO.out m (x : Int) (y : Int) w hmem (by omega) (by omega)).2
              clear hm hmem hb hc
              obtain ⟨mt, mf, mx, my⟩ := m
              simp only at c0 c1 c2 c3
              rw [HPT.out] at HFS
              have hact : rankP N (act G N ⟨mt, mf, (mx, my)⟩ ((x : Int), (y : Int))) = place N (To G ⟨mt, mf, (mx, my)⟩ ((x : Int), (y : Int))) := rfl
              rw [hact] at HFS
              clear hact
              simp only at hbd HTO2
              generalize To G ⟨mt, mf, (mx, my)⟩ ((x : Int), (y : Int)) = pp at *
              obtain ⟨px, py⟩ := pp
              simp only at hbd
              obtain ⟨qx, qy, e1, hqx, e2, hqy, e3⟩ := torus_pt h0 (px, py)
              have HON1 := Lib.hid (fun w => HON.out px py w (by omega) (by omega))
              simp only at e1 e2
              rw [e1, e2] at HON1
              rw [e3] at HFS
              have hR6 : qy * N + qx < 576 := Nat.lt_of_lt_of_le (row_lt hqx hqy) (Nat.mul_le_mul h24 h24)
              obtain ⟨R1, hR1⟩ : ∃ Q, qy * N = Q := ⟨_, rfl⟩
              obtain ⟨R, hR⟩ : ∃ Q, R1 + qx = Q := ⟨_, rfl⟩
              have p3 : (qy : Int) * (N : Int) = (R1 : Int) := by rw [← hR1]; push_cast; rfl
              have p4 : (R1 : Int) + (qx : Int) = (R : Int) := by rw [← hR]; push_cast; rfl
              rw [hR1, hR] at HFS hR6
              have r3 : IntKind.i64.wrap (R1 : Int) = (R1 : Int) := IntWalk.i64_in _ (by omega)
              have r4 : IntKind.i64.wrap (R : Int) = (R : Int) := IntWalk.i64_in _ (by omega)
              rw [HQQ.out] at HFS
              rw [← HQQ.out] at HFS
              clear hR1 hR e1 e2 e3 hbd
              by_cases hge : y * N + x ≤ R
              · have hgQ : Q ≤ R := by rw [← HQQ.out]; exact hge
                have dR : decide ((R : Int) ≥ (Q : Int)) = true := by simp; omega
                have dR2 : decide (Q ≤ R) = true := by simpa using hgQ
                cases b with
                | true =>
                  skip
                  have HFI2 : Hid ((true) = frI G N L (y * N + x) (i + 1)) := Lib.hid (by rw [HFS.out, ← HFI.out]; simp [hge])
                  clear HFS HFI hge
                  (go_wp2_with fail; refine ((HTO2.out _).1).mono ?_; rintro r w1 ⟨rfl, hb⟩; obtain ⟨E, d, rfl⟩ := bExt hb; clear hb)
                  (go_wp2_with fail; refine (HON1.out _).mono ?_; rintro r w1 ⟨rfl, hb⟩; obtain ⟨E, d, rfl⟩ := bExt hb; clear hb)
                  go_wp2
                  go_roundw
                  case rel => exact ⟨_, i + 1, _, _, by omega, rfl, by go_num, HFI2, by simp only [alloc_extW, extW_extW]; rfl⟩
                  case measure => simp [intOf]; omega
                | false =>
                  skip
                  have HFI2 : Hid ((false) = frI G N L (y * N + x) (i + 1)) := Lib.hid (by rw [HFS.out, ← HFI.out]; simp [hge])
                  clear HFS HFI hge
                  (go_wp2_with fail; refine ((HTO2.out _).1).mono ?_; rintro r w1 ⟨rfl, hb⟩; obtain ⟨E, d, rfl⟩ := bExt hb; clear hb)
                  (go_wp2_with fail; refine (HON1.out _).mono ?_; rintro r w1 ⟨rfl, hb⟩; obtain ⟨E, d, rfl⟩ := bExt hb; clear hb)
                  go_wp2
                  go_roundw
                  case rel => exact ⟨_, i + 1, _, _, by omega, rfl, by go_num, HFI2, by simp only [alloc_extW, extW_extW]; rfl⟩
                  case measure => simp [intOf]; omega
              · have hgQ : ¬ Q ≤ R := by rw [← HQQ.out]; exact hge
                have dR : decide ((R : Int) ≥ (Q : Int)) = false := by simp; omega
                have dR2 : decide (Q ≤ R) = false := by simpa using hgQ
                cases b with
                | true =>
                  skip
                  have HFI2 : Hid ((false) = frI G N L (y * N + x) (i + 1)) := Lib.hid (by rw [HFS.out, ← HFI.out]; simp [hge])
                  clear HFS HFI hge
                  (go_wp2_with fail; refine ((HTO2.out _).1).mono ?_; rintro r w1 ⟨rfl, hb⟩; obtain ⟨E, d, rfl⟩ := bExt hb; clear hb)
                  (go_wp2_with fail; refine (HON1.out _).mono ?_; rintro r w1 ⟨rfl, hb⟩; obtain ⟨E, d, rfl⟩ := bExt hb; clear hb)
                  go_wp2
                  go_roundw
                  case rel => exact ⟨_, i + 1, _, _, by omega, rfl, by go_num, HFI2, by simp only [alloc_extW, extW_extW]; rfl⟩
                  case measure => simp [intOf]; omega
                | false =>
                  skip
                  have HFI2 : Hid ((false) = frI G N L (y * N + x) (i + 1)) := Lib.hid (by rw [HFS.out, ← HFI.out]; simp [hge])
                  clear HFS HFI hge
                  (go_wp2_with fail; refine ((HTO2.out _).1).mono ?_; rintro r w1 ⟨rfl, hb⟩; obtain ⟨E, d, rfl⟩ := bExt hb; clear hb)
                  (go_wp2_with fail; refine (HON1.out _).mono ?_; rintro r w1 ⟨rfl, hb⟩; obtain ⟨E, d, rfl⟩ := bExt hb; clear hb)
                  go_wp2
                  go_roundw
                  case rel => exact ⟨_, i + 1, _, _, by omega, rfl, by go_num, HFI2, by simp only [alloc_extW, extW_extW]; rfl⟩
                  case measure => simp [intOf]; omega
            · obtain rfl : i = L.length := by omega
              have di : decide ((L.length : Int) < (L.length : Int)) = false := by simp
              have hfb := HFI.out.trans (frI_all G N L (y * N + x))
              have HPS1 := Lib.hid (HPS.out (y * N + x))
              have hpl := HPL.out (y * N + x)
              rw [← hfb, HPT.out] at HPS1
              clear hfb HFI HPS HPL HMW HPT HQQ
              cases b with
              | true =>
                have HPS2 : Hid (firstsP G N L (y * N + x + 1) = firstsP G N L (y * N + x) ++ [((x : Int), (y : Int))]) := Lib.hid (by rw [HPS1.out, if_pos rfl])
                have HGE := Lib.hid (HG.out.below (bExtW (Below.refl _ _) (Nat.le_refl _) : Below wo.heap.size wo (extW wo E0 d0)))
                generalize firstsP G N L (y * N + x) = FL at *
                generalize extW wo E0 d0 = w5 at *
                clear HPS1 HG
                go_wp2_with (at_builtin; refine wpAppM okPt rfl (.tmp 59) (.tmp 63) rfl W1.heap.size _ _ _ #[.int .i64 (x : Int), .int .i64 (y : Int)] rfl HGE.out.own rfl rfl ?_ (by omega) (by omega) HGE.out.bel.size ?_)
                · simp [Value.oneCell']
                intro v' w6 hown6 hg6 hb6
                obtain ⟨A', cp', rfl⟩ := own_form hown6
                have HG6 : Hid (GL 38 2 (ptsK (FL ++ [((x : Int), (y : Int))])) (FL ++ [((x : Int), (y : Int))]).length W1 (.slice A' (FL.length + 1) cp') w6) := Lib.hid ⟨by rw [ptsK_app, List.length_append]; exact hown6, HGE.out.bel.trans hb6⟩
                clear hown6 hg6 hb6 HGE
                go_wp2
                go_roundw
                case rel => exact ⟨x + 1, by omega, by go_num, by rw [← Nat.add_assoc, HPS2.out]; exact HG6⟩
                case measure => simp [intOf]; omega
              | false =>
                have HPS2 : Hid (firstsP G N L (y * N + x + 1) = firstsP G N L (y * N + x)) := Lib.hid (by rw [HPS1.out, if_neg (by simp)])
                have HGE := Lib.hid (HG.out.below (bExtW (Below.refl _ _) (Nat.le_refl _) : Below wo.heap.size wo (extW wo E0 d0)))
                generalize firstsP G N L (y * N + x) = FL at *
                clear HPS1 HG
                go_wp2
                go_roundw
                case rel => exact ⟨x + 1, by omega, by go_num, by rw [← Nat.add_assoc, HPS2.out]; exact HGE⟩
                case measure => simp [intOf]; omega
        · obtain rfl : x = N := by omega
          have dx : decide ((x : Int) < (x : Int)) = false := by simp
          rw [← Nat.succ_mul] at HG
          go_wp2
          go_roundw
          case rel => exact ⟨y + 1, by omega, by go_num, HG⟩
          case measure => simp [intOf]; omega
    · obtain rfl : y = N := by omega
      have dy : decide ((y : Int) < (y : Int)) = false := by simp
      rw [HRES.out] at HG
      obtain ⟨A', C', rfl⟩ := own_form HG.out.own
      have HO : Hid (OwnP wr w.heap.size A' RES.length C' RES) := Lib.hid ⟨rfl, own_baseV HG.out.own (Nat.le_of_lt hs0)⟩
      have HBL := Lib.hid (hbw.trans (HG.out.bel.mono (Nat.le_of_lt hs0)))
      clear HG HTO HON HPS HPL
      go_wp2
      go_ret
      exact ⟨⟨A', C', rfl, HO.out⟩, HBL.out⟩
end Go.Proofs.Ytdaacjaibfcacaa
