/- Lemmas and contracts of functions (what each call returns, and that it changes nothing that was there) that the proof of a law of this seat uses; each lemma states its own conditions. -/
import Derived.Test.YtdaacjaibfcacaaB33
import Derived.Test.YtdaacjaibfcacaaB37
namespace Go.Proofs.Ytdaacjaibfcacaa
open Go.RowKit
set_option linter.unusedVariables false
set_option linter.unusedSimpArgs false
open Z (torN place pnt Mv To lin okT nrm keepB colP idm md redM firstB rankP act sumL torusL)
set_option maxRecDepth 100000 in
set_option maxHeartbeats 8000000 in
theorem burn_bad (G W H : Int) (a : Option Addr) (n c : Nat) (cs : List Int) (w : World) (hI : IsInts w a n cs) (e : Int) (hT : TorBad e (.agg #[.int .i64 (G), .int .i64 (W), .int .i64 (H), .slice a n c]) a n cs) :
    Calls Try.prog 5 #[.agg #[.int .i64 (G), .int .i64 (W), .int .i64 (H), .slice a n c]] w fun r w' => r = .returned (.bool true) ∧ Below w.heap.size w w' := by
  have hb : (e != 0) = true := by simpa using hT.1
  have HM := Lib.hid (fun w hI => Moves_bad G W H a n c cs w hI e hT)
  have HD := Lib.hid (fun w hI => Domain_bad G W H a n c cs w hI e hT)
  have HT := Lib.hid hT.2.1
  have HI := Lib.hid hI
  unfold MvPost at HM
  unfold PtPost at HD
  clear hI hT
  go_enter Try.func5, Try.ntmps5
  (go_wp2_with fail; refine (alive3_any _).mono ?_; rintro r w1 ⟨rfl, hb⟩; obtain ⟨E, d, rfl⟩ := bExt hb; clear hb)
  go_wp2_with fail
  refine (HM.out _ (HI.out.below (by repeat (first | exact Below.refl _ _ | refine Below.drew ?_ | refine below_drewN ?_ _ | refine Below.alloc ?_ (by first | exact Nat.le_refl _ | (simp; done) | (simp; omega) | omega) _ | refine Below.setCell ?_ (by first | exact Nat.le_refl _ | (simp; done) | (simp; omega) | omega) _ | refine bExtW ?_ (by first | exact Nat.le_refl _ | (simp; done) | (simp; omega) | omega) | refine Below.trans ?_ (Below.mono (by assumption) (by first | exact Nat.le_refl _ | (simp; done) | (simp; omega) | omega)))))).mono ?_
  rintro r w2 ⟨⟨A, C, rfl, hM⟩, hb2⟩
  obtain ⟨E, d, rfl⟩ := bExt hb2
  clear hM hb2
  (go_wp2_with fail; refine (HT.out _ (HI.out.below (by repeat (first | exact Below.refl _ _ | refine Below.drew ?_ | refine below_drewN ?_ _ | refine Below.alloc ?_ (by first | exact Nat.le_refl _ | (simp; done) | (simp; omega) | omega) _ | refine Below.setCell ?_ (by first | exact Nat.le_refl _ | (simp; done) | (simp; omega) | omega) _ | refine bExtW ?_ (by first | exact Nat.le_refl _ | (simp; done) | (simp; omega) | omega) | refine Below.trans ?_ (Below.mono (by assumption) (by first | exact Nat.le_refl _ | (simp; done) | (simp; omega) | omega)))))).mono ?_; rintro r w1 ⟨rfl, hb⟩; obtain ⟨E, d, rfl⟩ := bExt hb; clear hb)
  go_wp2_with fail
  refine (HD.out _ (HI.out.below (by repeat (first | exact Below.refl _ _ | refine Below.drew ?_ | refine below_drewN ?_ _ | refine Below.alloc ?_ (by first | exact Nat.le_refl _ | (simp; done) | (simp; omega) | omega) _ | refine Below.setCell ?_ (by first | exact Nat.le_refl _ | (simp; done) | (simp; omega) | omega) _ | refine bExtW ?_ (by first | exact Nat.le_refl _ | (simp; done) | (simp; omega) | omega) | refine Below.trans ?_ (Below.mono (by assumption) (by first | exact Nat.le_refl _ | (simp; done) | (simp; omega) | omega)))))).mono ?_
  rintro r w2 ⟨⟨A, C, rfl, hM⟩, hb2⟩
  obtain ⟨E, d, rfl⟩ := bExt hb2
  clear hM hb2
  go_wp2
  go_ret
  exact ⟨rfl, (by repeat (first | exact Below.refl _ _ | refine Below.drew ?_ | refine below_drewN ?_ _ | refine Below.alloc ?_ (by first | exact Nat.le_refl _ | (simp; done) | (simp; omega) | omega) _ | refine Below.setCell ?_ (by first | exact Nat.le_refl _ | (simp; done) | (simp; omega) | omega) _ | refine bExtW ?_ (by first | exact Nat.le_refl _ | (simp; done) | (simp; omega) | omega) | refine Below.trans ?_ (Below.mono (by assumption) (by first | exact Nat.le_refl _ | (simp; done) | (simp; omega) | omega))))⟩
/-- How many of the first m places stay. -/
def cntS (g : Int) (n : Nat) (f : Mv) (m : Nat) : Nat := (List.range m).countP fun k => decide (act g n f (pnt n k) = pnt n k)
def sumS (g : Int) (n : Nat) (L : List Mv) (i : Nat) : Nat := sumL (L.take i) fun f => cntS g n f (n * n)
theorem cntS_succ (g : Int) (n : Nat) (f : Mv) (m : Nat) : cntS g n f (m + 1) = cntS g n f m + if act g n f (pnt n m) = pnt n m then 1 else 0 := by
  unfold cntS
  rw [List.range_succ, List.countP_append]
  simp [List.countP_cons]
theorem sumS_succ {g : Int} {n : Nat} {L : List Mv} {i : Nat} (hi : i < L.length) : sumS g n L (i + 1) = sumS g n L i + cntS g n (L.getD i idm) (n * n) := by
  unfold sumS Z.sumL
  rw [List.take_add_one, List.getElem?_eq_getElem hi, List.map_append, List.sum_append, List.getD_eq_getElem?_getD, List.getElem?_eq_getElem hi]
  simp
theorem firstsP_torus (g : Int) (n : Nat) (L : List Mv) : firstsP g n L (n * n) = (torusL n).filter (firstB g n L) := by
  unfold firstsP Z.torusL
  rw [List.filter_map]; rfl
theorem burn_count {g : Int} (hg : Z.G g) {n : Nat} (hn : 0 < n) {col : Z.Pt → Int} (hp : Z.Per n col) {L : List Mv} (h : Z.Grp g n col L) : sumS g n L L.length = (firstsP g n L (n * n)).length * L.length := by
  rw [firstsP_torus, ← Z.grp_burnside hg hn hp h]
  unfold sumS
  rw [List.take_length]
  refine Z.sumL_congr fun f _ => ?_
  unfold cntS Z.torusL
  rw [List.countP_map]; rfl
theorem firsts_alone {g : Int} (hg : Z.G g) {n : Nat} (hn : 0 < n) {col : Z.Pt → Int} (hp : Z.Per n col) {L : List Mv} (h : Z.Grp g n col L) {i k : Nat} (hi : i < (firstsP g n L (n * n)).length) (hk : k < (firstsP g n L (n * n)).length) {f : Mv} (hf : f ∈ L) (hne : k ≠ i) : act g n f ((firstsP g n L (n * n)).getD i (0, 0)) ≠ (firstsP g n L (n * n)).getD k (0, 0) := by
  rw [firstsP_torus] at hi hk ⊢
  have hnd : ((torusL n).filter (firstB g n L)).Nodup := List.Pairwise.filter _ (Z.nodup_torus n)
  rw [List.getD_eq_getElem?_getD, List.getElem?_eq_getElem hi, List.getD_eq_getElem?_getD, List.getElem?_eq_getElem hk]
  simp only [Option.getD_some]
  intro e
  obtain ⟨m1, f1⟩ := List.mem_filter.1 (List.getElem_mem hi)
  obtain ⟨m2, f2⟩ := List.mem_filter.1 (List.getElem_mem hk)
  have := Z.first_alone hg hn hp h m1 m2 f1 f2 hf e
  exact hne ((List.getElem_inj hnd).1 this).symm
theorem firsts_bd {g : Int} {n : Nat} {L : List Mv} {i : Nat} (hi : i < (firstsP g n L (n * n)).length) : 0 ≤ ((firstsP g n L (n * n)).getD i (0, 0)).1 ∧ ((firstsP g n L (n * n)).getD i (0, 0)).1 < n ∧ 0 ≤ ((firstsP g n L (n * n)).getD i (0, 0)).2 ∧ ((firstsP g n L (n * n)).getD i (0, 0)).2 < n := by
  rw [firstsP_torus] at hi ⊢
  rw [List.getD_eq_getElem?_getD, List.getElem?_eq_getElem hi]
  exact Z.mem_torus.1 (List.mem_filter.1 (List.getElem_mem hi)).1
set_option maxRecDepth 100000 in
set_option maxHeartbeats 8000000 in
theorem burn_ok (G W H n N : Nat) (a : Option Addr) (c : Nat) (cs : List Int) (w : World) (hI : IsInts w a n cs) (h : ChOk G W H n cs) (hN : torN W H = N) (h24 : N ≤ 24) (h0 : 0 < N) :
    Calls Try.prog 5 #[.agg #[.int .i64 (G), .int .i64 (W), .int .i64 (H), .slice a n c]] w fun r w' => r = .returned (.bool true) ∧ Below w.heap.size w w' := by
  have hg : (G : Int) = 4 ∨ (G : Int) = 6 := by have := h.g; omega
  obtain ⟨grp, per, _, hlen⟩ := moves_facts h hN h24 h0
  have HM := Lib.hid (fun w hI => Moves_ok G W H n N a c cs w hI h hN h24 h0)
  have HD := Lib.hid (fun w hI => Domain_ok G W H n N a c cs w hI h hN h24 h0 hlen)
  have HT := Lib.hid (torOk (a := a) (c := c) h hN h24).1
  have HI := Lib.hid hI
  unfold MvPost at HM
  unfold PtPost at HD
  generalize Z.movesL W H cs G N = L at *
  have HCNT := Lib.hid (burn_count hg h0 per grp)
  have HAL := Lib.hid (fun (i k : Nat) hi hk (f : Mv) (hf : f ∈ L) (hne : k ≠ i) => firsts_alone hg h0 per grp (i := i) (k := k) hi hk hf hne)
  have HFB := Lib.hid (fun i (hi : i < (firstsP G N L (N * N)).length) => firsts_bd hi)
  have hdl : (firstsP G N L (N * N)).length ≤ 576 := Nat.le_trans (firstsP_len _ _ _ _) (Nat.mul_le_mul h24 h24)
  have HCS := Lib.hid (fun f m => cntS_succ G N f m)
  have HSS := Lib.hid (fun i (hi : i < L.length) => sumS_succ (g := (G : Int)) (n := N) hi)
  have HS0 : Hid (sumS G N L 0 = 0) := Lib.hid rfl
  have HC0 : Hid (∀ f, cntS G N f 0 = 0) := Lib.hid fun f => rfl
  have HTO := Lib.hid (fun (m : Mv) (x y : Int) w (hm : m ∈ L) (hx : 0 ≤ x ∧ x ≤ 24) (hy : 0 ≤ y ∧ y ≤ 24) => (by
    have hb := grp.bd hm
    have ho := grp.ok hm
    exact (⟨rTo_any G x y m.o.1 m.o.2 m.t m.f w hg (mv_wf hg ho) (Int.le_trans (Z.nrm_bd hg (a := (x,y)) (B := 24) (by simp only; omega) (by simp only; omega)) (by decide)) (by omega) (by omega), To_small hg m.t m.f hx hy (ox := m.o.1) (oy := m.o.2) (by omega) (by omega)⟩ : _ ∧ _)))
  have HON := Lib.hid (fun x y w hx hy => On_ok N x y w h0 (by omega) hx hy)
  generalize firstsP G N L (N * N) = DL at *
  clear hI hN h grp per hg
  go_enter Try.func5, Try.ntmps5
  (go_wp2_with fail; refine (alive3_any _).mono ?_; rintro r w1 ⟨rfl, hb⟩; obtain ⟨E, d, rfl⟩ := bExt hb; clear hb)
  go_wp2_with fail
  refine (HM.out _ (HI.out.below (by repeat (first | exact Below.refl _ _ | refine Below.drew ?_ | refine below_drewN ?_ _ | refine Below.alloc ?_ (by first | exact Nat.le_refl _ | (simp; done) | (simp; omega) | omega) _ | refine Below.setCell ?_ (by first | exact Nat.le_refl _ | (simp; done) | (simp; omega) | omega) _ | refine bExtW ?_ (by first | exact Nat.le_refl _ | (simp; done) | (simp; omega) | omega) | refine Below.trans ?_ (Below.mono (by assumption) (by first | exact Nat.le_refl _ | (simp; done) | (simp; omega) | omega)))))).mono ?_
  rintro r w2 ⟨⟨A, C, rfl, hM⟩, hb2⟩
  have hMV := hM.moves
  have bx0 : w2.cell? ⟨w.heap.size, 0, none⟩ = some (.int .i64 (G)) := bCs hb2 (by simp [go_sem])
  have bx1 : w2.cell? ⟨w.heap.size, 1, none⟩ = some (.int .i64 (W)) := bCs hb2 (by simp [go_sem])
  have bx2 : w2.cell? ⟨w.heap.size, 2, none⟩ = some (.int .i64 (H)) := bCs hb2 (by simp [go_sem])
  have bx3 : w2.cell? ⟨w.heap.size, 3, none⟩ = some (.slice a n c) := bCs hb2 (by simp [go_sem])
  have lbx : LtW w.heap.size w2 := World.block_lt_of_cell? _ _ bx0
  have hbw : Below w.heap.size w w2 := (by repeat (first | exact Below.refl _ _ | refine Below.drew ?_ | refine below_drewN ?_ _ | refine Below.alloc ?_ (by first | exact Nat.le_refl _ | (simp; done) | (simp; omega) | omega) _ | refine Below.setCell ?_ (by first | exact Nat.le_refl _ | (simp; done) | (simp; omega) | omega) _ | refine bExtW ?_ (by first | exact Nat.le_refl _ | (simp; done) | (simp; omega) | omega) | refine Below.trans ?_ (Below.mono (by assumption) (by first | exact Nat.le_refl _ | (simp; done) | (simp; omega) | omega))))
  have hsz2 : w.heap.size ≤ w2.heap.size := hbw.size
  clear hM hb2
  (go_wp2_with fail; refine (HT.out _ (HI.out.below (by repeat (first | exact Below.refl _ _ | refine Below.drew ?_ | refine below_drewN ?_ _ | refine Below.alloc ?_ (by first | exact Nat.le_refl _ | (simp; done) | (simp; omega) | omega) _ | refine Below.setCell ?_ (by first | exact Nat.le_refl _ | (simp; done) | (simp; omega) | omega) _ | refine bExtW ?_ (by first | exact Nat.le_refl _ | (simp; done) | (simp; omega) | omega) | refine Below.trans ?_ (Below.mono (by assumption) (by first | exact Nat.le_refl _ | (simp; done) | (simp; omega) | omega)))))).mono ?_; rintro r w1 ⟨rfl, hb⟩; obtain ⟨E, d, rfl⟩ := bExt hb; clear hb)
  go_wp2_with fail
  refine (HD.out _ (HI.out.below (by repeat (first | exact Below.refl _ _ | refine Below.drew ?_ | refine below_drewN ?_ _ | refine Below.alloc ?_ (by first | exact Nat.le_refl _ | (simp; done) | (simp; omega) | omega) _ | refine Below.setCell ?_ (by first | exact Nat.le_refl _ | (simp; done) | (simp; omega) | omega) _ | refine bExtW ?_ (by first | exact Nat.le_refl _ | (simp; done) | (simp; omega) | omega) | refine Below.trans ?_ (Below.mono (by assumption) (by first | exact Nat.le_refl _ | (simp; done) | (simp; omega) | omega)))))).mono ?_
  rintro r w3 ⟨⟨A3, C3, rfl, hP⟩, hb3⟩
  have hb23 : Below w2.heap.size w2 w3 := (bExtW (Below.refl _ _) (Nat.le_refl _)).trans (hb3.mono (by simp))
  have HMV := Lib.hid (hMV.below hb23)
  have HPT := Lib.hid hP.pts
  have hbw3 : Below w.heap.size w w3 := hbw.trans (hb23.mono hsz2)
  have bx0 := bCs (hb23) bx0
  have bx1 := bCs (hb23) bx1
  have bx2 := bCs (hb23) bx2
  have bx3 := bCs (hb23) bx3
  have lbx : LtW w.heap.size w3 := World.block_lt_of_cell? _ _ bx0
  have hsz3 : w.heap.size ≤ w3.heap.size := hbw3.size
  clear hP hb3 hb23 hMV hbw hsz2 HD HT HM
  go_wp2_with fail
  go_loopw [9, 56] (fun sv iv wr => ∃ (s i : Nat) (E : Array Obj) (d : Nat), i ≤ L.length ∧ s ≤ i * 576 ∧ sv = .int .i64 s ∧ iv = .int .i64 i ∧ Hid (s = sumS G N L i) ∧ wr = extW w3 E d) (fun _ iv _ => L.length - (intOf iv).toNat)
  case atStart => exact ⟨0, 0, #[], _, by omega, by omega, rfl, rfl, Lib.hid HS0.out.symm, extW_zero _⟩
  case round =>
    obtain ⟨s, i, E0, d0, hi, hs, rfl, rfl, HSI, rfl⟩ := hrel
    by_cases hil : i < L.length
    · have di : decide ((i : Int) < (L.length : Int)) = true := by simpa using hil
      have vi : IntKind.i64.wrap ((i : Int) + 1) = (i : Int) + 1 := IntWalk.i64_in _ (by omega)
      obtain ⟨mb, mo, hA, hb, hc⟩ := HMV.out.2 (by omega)
      obtain ⟨c0, c1, c2, c3⟩ := hc i hil
      have lmb : LtW mb w3 := hb
      have hmem : L.getD i idm ∈ L := by rw [List.getD_eq_getElem?_getD, List.getElem?_eq_getElem hil]; exact List.getElem_mem hil
      have HSS1 := Lib.hid (HSS.out i hil)
      obtain ⟨m, hm⟩ : ∃ m, L.getD i idm = m := ⟨_, rfl⟩
      rw [hm] at c0 c1 c2 c3 hmem HSS1
      have HTO1 := Lib.hid (fun x y w hx hy => HTO.out m x y w hmem hx hy)
      have HAL1 := Lib.hid (fun (i k : Nat) hi hk (hne : k ≠ i) => HAL.out i k hi hk m hmem hne)
      subst hA
      clear hb hc hm hmem
      obtain ⟨mt, mf, mx, my⟩ := m
      simp only at c0 c1 c2 c3
      go_wp2_with fail
      obtain ⟨w4, hw4⟩ : ∃ w4, w4 = ((extW w3 E0 d0).alloc (.cells #[.int .i64 (mt : Int), .bool mf, .int .i64 mx, .int .i64 my] 53)) := ⟨_, rfl⟩
      have hb34 : Below w3.heap.size w3 w4 := by rw [hw4]; exact (bExtW (Below.refl _ _) (Nat.le_refl _)).alloc (by simp) _
      have f0 : w4.cell? ⟨w3.heap.size + E0.size, 0, none⟩ = some (.int .i64 (mt)) := by rw [hw4]; simp [go_sem]
      have f1 : w4.cell? ⟨w3.heap.size + E0.size, 1, none⟩ = some (.bool mf) := by rw [hw4]; simp [go_sem]
      have f2 : w4.cell? ⟨w3.heap.size + E0.size, 2, none⟩ = some (.int .i64 (mx)) := by rw [hw4]; simp [go_sem]
      have f3 : w4.cell? ⟨w3.heap.size + E0.size, 3, none⟩ = some (.int .i64 (my)) := by rw [hw4]; simp [go_sem]
      rw [← hw4]
      have HW4 := Lib.hid hw4
      clear hw4
      obtain ⟨fb, hfb⟩ : ∃ fb, w3.heap.size + E0.size = fb := ⟨_, rfl⟩
      rw [hfb] at f0 f1 f2 f3 ⊢
      clear hfb
      have lfb : LtW fb w4 := World.block_lt_of_cell? _ _ f0
      have HPT4 := Lib.hid (HPT.out.below hb34)
      have bx0 := bCs (hb34) bx0
      have bx1 := bCs (hb34) bx1
      have bx2 := bCs (hb34) bx2
      have bx3 := bCs (hb34) bx3
      have lbx : LtW w.heap.size w4 := World.block_lt_of_cell? _ _ bx0
      have hbw4 : Below w.heap.size w w4 := hbw3.trans (hb34.mono hsz3)
      clear hb34 c0 c1 c2 c3 lmb
      go_loopw [9, 12] (fun sv yv wr => ∃ (s' y : Nat) (E : Array Obj) (d : Nat), y ≤ N ∧ s' ≤ i * 576 + y * 24 ∧ sv = .int .i64 s' ∧ yv = .int .i64 y ∧ Hid (s' = s + cntS G N ⟨mt, mf, (mx, my)⟩ (y * N)) ∧ wr = extW w4 E d) (fun _ yv _ => N - (intOf yv).toNat)
      case atStart => exact ⟨s, 0, #[], _, by omega, by omega, rfl, rfl, Lib.hid (by rw [Nat.zero_mul, HC0.out]; rfl), extW_zero _⟩
      case round =>
        obtain ⟨s', y, E1, d1, hy, hs', rfl, rfl, HSY, rfl⟩ := hrel
        by_cases hyn : y < N
        · have dy : decide ((y : Int) < (N : Int)) = true := by simpa using hyn
          have vy : IntKind.i64.wrap ((y : Int) + 1) = (y : Int) + 1 := IntWalk.i64_in _ (by omega)
          go_wp2_with fail
          go_loopw [9, 13] (fun sv xv wr => ∃ (s' x : Nat) (E : Array Obj) (d : Nat), x ≤ N ∧ s' ≤ i * 576 + y * 24 + x ∧ sv = .int .i64 s' ∧ xv = .int .i64 x ∧ Hid (s' = s + cntS G N ⟨mt, mf, (mx, my)⟩ (y * N + x)) ∧ wr = extW w4 E d) (fun _ xv _ => N - (intOf xv).toNat)
          case atStart => exact ⟨s', 0, E1, d1, by omega, by omega, rfl, rfl, HSY, rfl⟩
          case round =>
            clear HSY hs'
            obtain ⟨s', x, E2, d2, hx, hs', rfl, rfl, HSX, rfl⟩ := hrel
            by_cases hxn : x < N
            · have dx : decide ((x : Int) < (N : Int)) = true := by simpa using hxn
              have vx : IntKind.i64.wrap ((x : Int) + 1) = (x : Int) + 1 := IntWalk.i64_in _ (by omega)
              have vs : IntKind.i64.wrap ((s' : Int) + 1) = (s' : Int) + 1 := IntWalk.i64_in _ (by omega)
              have HTO2 := Lib.hid (fun w => HTO1.out (x : Int) (y : Int) w (by omega) (by omega))
              have hbd := (HTO1.out (x : Int) (y : Int) w4 (by omega) (by omega)).2
              have HCS1 := Lib.hid (HCS.out ⟨mt, mf, (mx, my)⟩ (y * N + x))
              rw [pnt_at hxn] at HCS1
              have hact : act G N ⟨mt, mf, (mx, my)⟩ ((x : Int), (y : Int)) = ((To G ⟨mt, mf, (mx, my)⟩ ((x : Int), (y : Int))).1 % (N : Int), (To G ⟨mt, mf, (mx, my)⟩ ((x : Int), (y : Int))).2 % (N : Int)) := rfl
              rw [hact] at HCS1
              clear hact
              generalize To G ⟨mt, mf, (mx, my)⟩ ((x : Int), (y : Int)) = pp at *
              obtain ⟨px, py⟩ := pp
              simp only at hbd HTO2 HCS1
              have HON1 := Lib.hid (fun w => HON.out px py w (by omega) (by omega))
              generalize px % (N : Int) = qx at *
              generalize py % (N : Int) = qy at *
              clear hbd
              by_cases hq : qx = (x : Int) ∧ qy = (y : Int)
              · have e1 : (qx == (x : Int)) = true := by simpa using hq.1
                have e2 : (qy == (y : Int)) = true := by simpa using hq.2
                have HN : Hid (s' + 1 = s + cntS G N ⟨mt, mf, (mx, my)⟩ (y * N + (x + 1))) := Lib.hid (by rw [← Nat.add_assoc, HCS1.out, if_pos (by rw [hq.1, hq.2]), ← Nat.add_assoc, ← HSX.out])
                clear hq HCS1 HSX
                (go_wp2_with fail; refine ((HTO2.out _).1).mono ?_; rintro r w1 ⟨rfl, hb⟩; obtain ⟨E, d, rfl⟩ := bExt hb; clear hb)
                (go_wp2_with fail; refine (HON1.out _).mono ?_; rintro r w1 ⟨rfl, hb⟩; obtain ⟨E, d, rfl⟩ := bExt hb; clear hb)
                go_wp2
                go_roundw
                case rel => exact ⟨s' + 1, x + 1, _, _, by omega, by omega, by go_num, by go_num, HN, by simp only [extW_extW]; rfl⟩
                case measure => simp [intOf]; omega
              · have HN : Hid (s' = s + cntS G N ⟨mt, mf, (mx, my)⟩ (y * N + (x + 1))) := Lib.hid (by
                  rw [← Nat.add_assoc, HCS1.out, if_neg (by intro e; injection e with e1 e2; exact hq ⟨e1, e2⟩), Nat.add_zero]; exact HSX.out)
                have hcase : (qx == (x : Int)) = false ∨ ((qx == (x : Int)) = true ∧ (qy == (y : Int)) = false) := by
                  by_cases e1 : qx = (x : Int)
                  · exact .inr ⟨by simpa using e1, by rw [beq_eq_false_iff_ne]; exact fun e2 => hq ⟨e1, e2⟩⟩
                  · exact .inl (by rw [beq_eq_false_iff_ne]; exact e1)
                clear hq HCS1 HSX
                rcases hcase with e1 | ⟨e1, e2⟩
                all_goals
                  (go_wp2_with fail; refine ((HTO2.out _).1).mono ?_; rintro r w1 ⟨rfl, hb⟩; obtain ⟨E, d, rfl⟩ := bExt hb; clear hb)
                  (go_wp2_with fail; refine (HON1.out _).mono ?_; rintro r w1 ⟨rfl, hb⟩; obtain ⟨E, d, rfl⟩ := bExt hb; clear hb)
                  go_wp2
                  go_roundw
                  case rel => exact ⟨s', x + 1, _, _, by omega, by omega, rfl, by go_num, HN, by simp only [extW_extW]; rfl⟩
                  case measure => simp [intOf]; omega
            · obtain rfl : x = N := by omega
              have dx : decide ((x : Int) < (x : Int)) = false := by simp
              rw [← Nat.succ_mul] at HSX
              go_wp2
              go_roundw
              case rel => exact ⟨s', y + 1, _, _, by omega, by omega, rfl, by go_num, HSX, rfl⟩
              case measure => simp [intOf]; omega
        · obtain rfl : y = N := by omega
          have dy : decide ((y : Int) < (y : Int)) = false := by simp
          have HSN : Hid (s' = sumS G y L (i + 1)) := Lib.hid (by rw [HSS1.out, ← HSI.out]; exact HSY.out)
          have hs2 : s' ≤ (i + 1) * 576 := by omega
          clear HSY HSI HSS1 hs' hs
          go_wp2_with fail
          go_loopw [87] (fun zv wr => ∃ (z : Nat) (E : Array Obj) (d : Nat), z ≤ DL.length ∧ zv = .int .i64 z ∧ wr = extW w4 E d) (fun zv _ => DL.length - (intOf zv).toNat)
          case atStart => exact ⟨0, E1, d1, by omega, rfl, rfl⟩
          case round =>
            obtain ⟨z, E2, d2, hz, rfl, rfl⟩ := hrel
            by_cases hzl : z < DL.length
            · have dz : decide ((z : Int) < (DL.length : Int)) = true := by simpa using hzl
              have vz : IntKind.i64.wrap ((z : Int) + 1) = (z : Int) + 1 := IntWalk.i64_in _ (by omega)
              obtain ⟨pb, po, hA3, hb, hc⟩ := HPT4.out.2 (by omega)
              obtain ⟨d0, d1'⟩ := hc z hzl
              have lpb : LtW pb w4 := hb
              have hzb := HFB.out z hzl
              have HAL2 := Lib.hid (fun k hk hne => HAL1.out z k hzl hk hne)
              obtain ⟨zp, hzp⟩ : ∃ p, DL.getD z (0, 0) = p := ⟨_, rfl⟩
              rw [hzp] at d0 d1' hzb HAL2
              clear hzp hb hc
              obtain ⟨zx, zy⟩ := zp
              simp only at d0 d1' hzb
              have HTO2 := Lib.hid (fun w => HTO1.out zx zy w (by omega) (by omega))
              have hbd := (HTO1.out zx zy w4 (by omega) (by omega)).2
              have hact : act G y ⟨mt, mf, (mx, my)⟩ (zx, zy) = ((To G ⟨mt, mf, (mx, my)⟩ (zx, zy)).1 % (y : Int), (To G ⟨mt, mf, (mx, my)⟩ (zx, zy)).2 % (y : Int)) := rfl
              rw [hact] at HAL2
              clear hact
              generalize To G ⟨mt, mf, (mx, my)⟩ (zx, zy) = pp at *
              obtain ⟨px, py⟩ := pp
              simp only at hbd HTO2 HAL2
              have HON1 := Lib.hid (fun w => HON.out px py w (by omega) (by omega))
              generalize px % (y : Int) = qx at *
              generalize py % (y : Int) = qy at *
              clear hbd
              have HA3 := Lib.hid hA3
              subst hA3
              go_wp2_with fail
              refine ((HTO2.out _).1).mono ?_
              rintro r w1 ⟨rfl, hbt⟩
              obtain ⟨E3, d3, rfl⟩ := bExt hbt
              clear hbt
              (go_wp2_with fail; refine (HON1.out _).mono ?_; rintro r w1 ⟨rfl, hb⟩; obtain ⟨E, d, rfl⟩ := bExt hb; clear hb)
              go_wp2_with fail
              obtain ⟨w5, hw5⟩ : ∃ w5, w5 = ((extW (extW ((extW w4 E2 d2).alloc (.cells #[.int .i64 zx, .int .i64 zy] 38)) E3 d3) E d).alloc (.cells #[.int .i64 qx, .int .i64 qy] 38)) := ⟨_, rfl⟩
              have hb45 : Below w4.heap.size w4 w5 := by rw [hw5]; exact (by repeat (first | exact Below.refl _ _ | refine Below.drew ?_ | refine below_drewN ?_ _ | refine Below.alloc ?_ (by first | exact Nat.le_refl _ | (simp; done) | (simp; omega) | omega) _ | refine Below.setCell ?_ (by first | exact Nat.le_refl _ | (simp; done) | (simp; omega) | omega) _ | refine bExtW ?_ (by first | exact Nat.le_refl _ | (simp; done) | (simp; omega) | omega) | refine Below.trans ?_ (Below.mono (by assumption) (by first | exact Nat.le_refl _ | (simp; done) | (simp; omega) | omega))))
              have t0 : w5.cell? ⟨w4.heap.size + E2.size + 1 + E3.size + E.size, 0, none⟩ = some (.int .i64 (qx)) := by rw [hw5]; simp [go_sem]
              have t1 : w5.cell? ⟨w4.heap.size + E2.size + 1 + E3.size + E.size, 1, none⟩ = some (.int .i64 (qy)) := by rw [hw5]; simp [go_sem]
              rw [← hw5]
              have HW5 := Lib.hid hw5
              clear hw5
              obtain ⟨tb, htb⟩ : ∃ tb, w4.heap.size + E2.size + 1 + E3.size + E.size = tb := ⟨_, rfl⟩
              rw [htb] at t0 t1 ⊢
              clear htb
              have ltb : LtW tb w5 := World.block_lt_of_cell? _ _ t0
              have HPT5 := Lib.hid (HPT4.out.below hb45)
              clear hb45 d0 d1' lpb HTO2 HON1 f0 f1 f2 f3 lfb bx0 bx1 bx2 bx3 lbx hbw4
              go_loopw [101] (fun kv wr => ∃ (k : Nat) (E : Array Obj) (d : Nat), k ≤ DL.length ∧ kv = .int .i64 k ∧ wr = extW w5 E d) (fun kv _ => DL.length - (intOf kv).toNat)
              case atStart => exact ⟨0, #[], _, by omega, rfl, extW_zero _⟩
              case round =>
                obtain ⟨k, E6, d6, hk, rfl, rfl⟩ := hrel
                by_cases hkl : k < DL.length
                · have dk : decide ((k : Int) < (DL.length : Int)) = true := by simpa using hkl
                  have vk : IntKind.i64.wrap ((k : Int) + 1) = (k : Int) + 1 := IntWalk.i64_in _ (by omega)
                  obtain ⟨pb', po', hA3', hb', hc'⟩ := HPT5.out.2 (by omega)
                  injection hA3' with hA3'
                  injection hA3' with hA3' hA4'
                  subst hA3' hA4'
                  obtain ⟨o0, o1⟩ := hc' k hkl
                  have lpb : LtW pb w5 := hb'
                  by_cases hkz : k = z
                  · have e0 : ((k : Int) != (z : Int)) = false := by simp [hkz]
                    clear hkz hb' hc'
                    generalize DL.getD k (0, 0) = op at *
                    obtain ⟨ox, oy⟩ := op
                    simp only at o0 o1
                    go_wp2
                    go_roundw
                    case rel => exact ⟨k + 1, _, _, by omega, by go_num, by simp only [alloc_extW, extW_extW]; rfl⟩
                    case measure => simp [intOf]; omega
                  · have e0 : ((k : Int) != (z : Int)) = true := by simp; omega
                    have hne := HAL2.out k hkl hkz
                    clear hkz hb' hc'
                    generalize DL.getD k (0, 0) = op at *
                    obtain ⟨ox, oy⟩ := op
                    simp only at o0 o1
                    have hcase : (qx == ox) = false ∨ ((qx == ox) = true ∧ (qy == oy) = false) := by
                      by_cases e1 : qx = ox
                      · exact .inr ⟨by simpa using e1, by rw [beq_eq_false_iff_ne]; exact fun e2 => hne (by rw [e1, e2])⟩
                      · exact .inl (by rw [beq_eq_false_iff_ne]; exact e1)
                    clear hne
                    rcases hcase with e1 | ⟨e1, e2⟩
                    all_goals
                      go_wp2
                      go_roundw
                      case rel => exact ⟨k + 1, _, _, by omega, by go_num, by simp only [alloc_extW, extW_extW]; rfl⟩
                      case measure => simp [intOf]; omega
                · obtain rfl : k = DL.length := by omega
                  have dk : decide ((DL.length : Int) < (DL.length : Int)) = false := by simp
                  go_wp2
                  go_roundw
                  case rel => exact ⟨z + 1, _, _, by omega, by go_num, by rw [HW5.out]; simp only [alloc_extW, extW_extW]; rfl⟩
                  case measure => simp [intOf]; omega
            · obtain rfl : z = DL.length := by omega
              have dz : decide ((DL.length : Int) < (DL.length : Int)) = false := by simp
              go_wp2
              go_roundw
              case rel => exact ⟨s', i + 1, _, _, by omega, by omega, rfl, by go_num, HSN, by rw [HW4.out]; simp only [alloc_extW, extW_extW]; rfl⟩
              case measure => simp [intOf]; omega
    · obtain rfl : i = L.length := by omega
      have di : decide ((L.length : Int) < (L.length : Int)) = false := by simp
      have hfin := HSI.out.trans HCNT.out
      have p1 : (DL.length : Int) * (L.length : Int) = (s : Int) := by rw [hfin]; push_cast; rfl
      have v1 : IntKind.i64.wrap (s : Int) = (s : Int) := IntWalk.i64_in _ (by omega)
      clear hfin HSI HSS HTO HAL HFB HCS HON HCNT HS0 HC0
      go_wp2
      go_ret
      exact ⟨rfl, (by repeat (first | exact Below.refl _ _ | refine Below.drew ?_ | refine below_drewN ?_ _ | refine Below.alloc ?_ (by first | exact Nat.le_refl _ | (simp; done) | (simp; omega) | omega) _ | refine Below.setCell ?_ (by first | exact Nat.le_refl _ | (simp; done) | (simp; omega) | omega) _ | refine bExtW ?_ (by first | exact Nat.le_refl _ | (simp; done) | (simp; omega) | omega) | refine Below.trans ?_ (Below.mono (by assumption) (by first | exact Nat.le_refl _ | (simp; done) | (simp; omega) | omega))))⟩
theorem burn_walk (G W H : Int) (a : Option Addr) (n c : Nat) (cs : List Int) (w : World) (hI : IsInts w a n cs) (h0 : (-9223372036854775808 ≤ G ∧ G ≤ 9223372036854775807)) (h1 : (-9223372036854775808 ≤ W ∧ W ≤ 9223372036854775807)) (h2 : (-9223372036854775808 ≤ H ∧ H ≤ 9223372036854775807)) (h3 : n ≤ 9223372036854775807) :
    Calls Try.prog 5 #[.agg #[.int .i64 (G), .int .i64 (W), .int .i64 (H), .slice a n c]] w fun r w' => r = .returned (.bool true) ∧ Below w.heap.size w w' := by
  rcases chart_cases G W H a n c cs h0 h1 h2 h3 with ⟨e, hT⟩ | ⟨G', W', H', N, rfl, rfl, rfl, h, hN, hp, h24⟩
  · exact burn_bad G W H a n c cs w hI e hT
  · exact burn_ok G' W' H' n N a c cs w hI h hN h24 hp
end Go.Proofs.Ytdaacjaibfcacaa
