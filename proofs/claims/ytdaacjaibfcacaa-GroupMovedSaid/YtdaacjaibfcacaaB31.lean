/- Lemmas and contracts of functions (what each call returns, and that it changes nothing that was there) that the proof of a law of this seat uses; each lemma states its own conditions. -/
import Derived.Test.YtdaacjaibfcacaaB30
namespace Go.Proofs.Ytdaacjaibfcacaa
open Go.RowKit
set_option linter.unusedVariables false
set_option linter.unusedSimpArgs false
open Z (torN place pnt Mv To lin okT nrm keepB colP idm md redM both inv)
theorem head_filter {α : Type} {p : α → Bool} {a : α} : ∀ {l : List α}, l[0]? = some a → p a = true → (l.filter p)[0]? = some a
  | [], h, _ => by simp at h
  | x :: l, h, hp => by
    obtain rfl : x = a := by simpa using h
    rw [List.filter_cons, if_pos hp]; rfl
theorem allM_head {g : Int} {n : Nat} (hg : 0 < g.toNat) (hn : 0 < n) : (Z.allM g n)[0]? = some idm := by
  obtain ⟨s, hs⟩ : ∃ s, g.toNat = s + 1 := ⟨g.toNat - 1, by omega⟩
  obtain ⟨r, hr⟩ : ∃ r, n * n = r + 1 := ⟨n * n - 1, by have := Nat.mul_pos hn hn; omega⟩
  have h0 : pnt n 0 = (0, 0) := by unfold pnt; simp
  unfold Z.allM
  rw [hs, hr, List.range_succ_eq_map, List.range_succ_eq_map]
  simp [h0, idm]
theorem moves_head {W H n : Nat} {cs : List Int} {g : Int} (hg : g = 4 ∨ g = 6) (hn : 0 < n) (hW : W ∣ n) (hH : H ∣ n) : (Z.movesL W H cs g n)[0]? = some idm :=
  head_filter (allM_head (by omega) hn) ((Z.keepB_iff hn hW hH).2 (Z.Keep.id g _))
/-- What the group laws ask first. -/
def tb (b : Bool) : Value := .bool b
set_option maxRecDepth 100000 in
set_option maxHeartbeats 8000000 in
theorem closes_bad (G W H : Int) (a : Option Addr) (n c : Nat) (cs : List Int) (i k : Int) (w : World) (hI : IsInts w a n cs) (e : Int) (hT : TorBad e (.agg #[.int .i64 (G), .int .i64 (W), .int .i64 (H), .slice a n c]) a n cs) :
    Calls Try.prog 8 #[.agg #[.int .i64 (G), .int .i64 (W), .int .i64 (H), .slice a n c], .int .i64 (i), .int .i64 (k)] w fun r w' => r = .returned (.bool true) ∧ Below w.heap.size w w' := by
  have hb : (e != 0) = true := by simpa using hT.1
  have HM := Lib.hid (fun w hI => Moves_bad G W H a n c cs w hI e hT)
  have HT := Lib.hid hT.2.1
  have HI := Lib.hid hI
  unfold MvPost at HM
  clear hI hT
  go_enter Try.func8, Try.ntmps8
  (go_wp2_with fail; refine (alive3_any _).mono ?_; rintro r w1 ⟨rfl, hb⟩; obtain ⟨E, d, rfl⟩ := bExt hb; clear hb)
  go_wp2_with fail
  refine (HM.out _ (HI.out.below (by repeat (first | exact Below.refl _ _ | refine Below.drew ?_ | refine below_drewN ?_ _ | refine Below.alloc ?_ (by first | exact Nat.le_refl _ | (simp; done) | (simp; omega) | omega) _ | refine Below.setCell ?_ (by first | exact Nat.le_refl _ | (simp; done) | (simp; omega) | omega) _ | refine bExtW ?_ (by first | exact Nat.le_refl _ | (simp; done) | (simp; omega) | omega) | refine Below.trans ?_ (Below.mono (by assumption) (by first | exact Nat.le_refl _ | (simp; done) | (simp; omega) | omega)))))).mono ?_
  rintro r w2 ⟨⟨A, C, rfl, hM⟩, hb2⟩
  obtain ⟨E, d, rfl⟩ := bExt hb2
  clear hM hb2
  (go_wp2_with fail; refine (HT.out _ (HI.out.below (by repeat (first | exact Below.refl _ _ | refine Below.drew ?_ | refine below_drewN ?_ _ | refine Below.alloc ?_ (by first | exact Nat.le_refl _ | (simp; done) | (simp; omega) | omega) _ | refine Below.setCell ?_ (by first | exact Nat.le_refl _ | (simp; done) | (simp; omega) | omega) _ | refine bExtW ?_ (by first | exact Nat.le_refl _ | (simp; done) | (simp; omega) | omega) | refine Below.trans ?_ (Below.mono (by assumption) (by first | exact Nat.le_refl _ | (simp; done) | (simp; omega) | omega)))))).mono ?_; rintro r w1 ⟨rfl, hb⟩; obtain ⟨E, d, rfl⟩ := bExt hb; clear hb)
  go_wp2
  go_ret
  exact ⟨rfl, (by repeat (first | exact Below.refl _ _ | refine Below.drew ?_ | refine below_drewN ?_ _ | refine Below.alloc ?_ (by first | exact Nat.le_refl _ | (simp; done) | (simp; omega) | omega) _ | refine Below.setCell ?_ (by first | exact Nat.le_refl _ | (simp; done) | (simp; omega) | omega) _ | refine bExtW ?_ (by first | exact Nat.le_refl _ | (simp; done) | (simp; omega) | omega) | refine Below.trans ?_ (Below.mono (by assumption) (by first | exact Nat.le_refl _ | (simp; done) | (simp; omega) | omega))))⟩
set_option maxRecDepth 100000 in
set_option maxHeartbeats 8000000 in
theorem closes_neg (G W H n N : Nat) (a : Option Addr) (c : Nat) (cs : List Int) (i k : Int) (w : World) (hI : IsInts w a n cs) (h : ChOk G W H n cs) (hN : torN W H = N) (h24 : N ≤ 24) (h0 : 0 < N) (hik : i < 0 ∨ k < 0) :
    Calls Try.prog 8 #[.agg #[.int .i64 (G), .int .i64 (W), .int .i64 (H), .slice a n c], .int .i64 (i), .int .i64 (k)] w fun r w' => r = .returned (.bool true) ∧ Below w.heap.size w w' := by
  have HM := Lib.hid (fun w hI => Moves_ok G W H n N a c cs w hI h hN h24 h0)
  have HT := Lib.hid (torOk (a := a) (c := c) h hN h24).1
  have hd := Z.torN_dvd W H
  rw [hN] at hd
  have hh := moves_head (cs := cs) (g := (G : Int)) (by have := h.g; omega) h0 hd.1 hd.2
  have HI := Lib.hid hI
  unfold MvPost at HM
  generalize Z.movesL W H cs G N = L at *
  have hl0 : 0 < L.length := by
    cases L with
    | nil => simp at hh
    | cons x l => simp
  have hg0 : L.getD 0 idm = idm := by rw [List.getD_eq_getElem?_getD, hh]; rfl
  have q1 : ((L.length : Int) == 0) = false := by rw [beq_eq_false_iff_ne]; omega
  have q2 : decide ((N : Int) < 1) = false := by simp; omega
  have q3 : decide (N < 1) = false := by simp; omega
  have HG0 := Lib.hid hg0
  clear hI hN hd hh h hg0
  have hik2 : (decide (i < 0) = true) ∨ (decide (i < 0) = false ∧ decide (k < 0) = true) := by
    by_cases hi : i < 0
    · exact .inl (by simpa using hi)
    · exact .inr ⟨by simpa using hi, by simp; omega⟩
  clear hik
  rcases hik2 with d1 | ⟨d1, d2⟩
  all_goals
    go_enter Try.func8, Try.ntmps8
    (go_wp2_with fail; refine (alive3_any _).mono ?_; rintro r w1 ⟨rfl, hb⟩; obtain ⟨E, d, rfl⟩ := bExt hb; clear hb)
    go_wp2_with fail
    refine (HM.out _ (HI.out.below (by repeat (first | exact Below.refl _ _ | refine Below.drew ?_ | refine below_drewN ?_ _ | refine Below.alloc ?_ (by first | exact Nat.le_refl _ | (simp; done) | (simp; omega) | omega) _ | refine Below.setCell ?_ (by first | exact Nat.le_refl _ | (simp; done) | (simp; omega) | omega) _ | refine bExtW ?_ (by first | exact Nat.le_refl _ | (simp; done) | (simp; omega) | omega) | refine Below.trans ?_ (Below.mono (by assumption) (by first | exact Nat.le_refl _ | (simp; done) | (simp; omega) | omega)))))).mono ?_
    rintro r w2 ⟨⟨A, C, rfl, hM⟩, hb2⟩
    obtain ⟨b, o, rfl, hb, hc⟩ := hM.moves.2 hl0
    obtain ⟨c0, c1, c2, c3⟩ := hc 0 hl0
    rw [HG0.out] at c0 c1 c2 c3
    simp only [idm, Nat.zero_mul, Nat.add_zero] at c0 c1 c2 c3
    have lb : LtW b w2 := hb
    have bx0 : w2.cell? ⟨w.heap.size, 0, none⟩ = some (.int .i64 (G)) := bCs hb2 (by simp [go_sem])
    have bx1 : w2.cell? ⟨w.heap.size, 1, none⟩ = some (.int .i64 (W)) := bCs hb2 (by simp [go_sem])
    have bx2 : w2.cell? ⟨w.heap.size, 2, none⟩ = some (.int .i64 (H)) := bCs hb2 (by simp [go_sem])
    have bx3 : w2.cell? ⟨w.heap.size, 3, none⟩ = some (.slice a n c) := bCs hb2 (by simp [go_sem])
    have lbx : LtW w.heap.size w2 := World.block_lt_of_cell? _ _ bx0
    have hbw : Below w.heap.size w w2 := (by repeat (first | exact Below.refl _ _ | refine Below.drew ?_ | refine below_drewN ?_ _ | refine Below.alloc ?_ (by first | exact Nat.le_refl _ | (simp; done) | (simp; omega) | omega) _ | refine Below.setCell ?_ (by first | exact Nat.le_refl _ | (simp; done) | (simp; omega) | omega) _ | refine bExtW ?_ (by first | exact Nat.le_refl _ | (simp; done) | (simp; omega) | omega) | refine Below.trans ?_ (Below.mono (by assumption) (by first | exact Nat.le_refl _ | (simp; done) | (simp; omega) | omega))))
    have hsz2 : w.heap.size ≤ w2.heap.size := hbw.size
    clear hb hc hM hb2
    (go_wp2_with fail; refine (HT.out _ (HI.out.below (by repeat (first | exact Below.refl _ _ | refine Below.drew ?_ | refine below_drewN ?_ _ | refine Below.alloc ?_ (by first | exact Nat.le_refl _ | (simp; done) | (simp; omega) | omega) _ | refine Below.setCell ?_ (by first | exact Nat.le_refl _ | (simp; done) | (simp; omega) | omega) _ | refine bExtW ?_ (by first | exact Nat.le_refl _ | (simp; done) | (simp; omega) | omega) | refine Below.trans ?_ (Below.mono (by assumption) (by first | exact Nat.le_refl _ | (simp; done) | (simp; omega) | omega)))))).mono ?_; rintro r w1 ⟨rfl, hb⟩; obtain ⟨E, d, rfl⟩ := bExt hb; clear hb)
    go_wp2
    go_ret
    exact ⟨rfl, (by repeat (first | exact Below.refl _ _ | refine Below.drew ?_ | refine below_drewN ?_ _ | refine Below.alloc ?_ (by first | exact Nat.le_refl _ | (simp; done) | (simp; omega) | omega) _ | refine Below.setCell ?_ (by first | exact Nat.le_refl _ | (simp; done) | (simp; omega) | omega) _ | refine bExtW ?_ (by first | exact Nat.le_refl _ | (simp; done) | (simp; omega) | omega) | refine Below.trans ?_ (Below.mono (by assumption) (by first | exact Nat.le_refl _ | (simp; done) | (simp; omega) | omega))))⟩
/-- What the moves of a right chart are. -/
theorem moves_facts {G W H n N : Nat} {cs : List Int} (h : ChOk G W H n cs) (hN : torN W H = N) (h24 : N ≤ 24) (h0 : 0 < N) :
    Z.Grp (G : Int) (N : Int) (colP W H cs) (Z.movesL W H cs G N) ∧ Z.Per (N : Int) (colP W H cs) ∧ (Z.movesL W H cs G N)[0]? = some idm ∧ (Z.movesL W H cs G N).length ≤ 10000 := by
  have hd := Z.torN_dvd W H
  rw [hN] at hd
  refine ⟨Z.movesL_grp h0 hd.1 hd.2, Z.colP_per cs hd.1 hd.2, moves_head (by have := h.g; omega) h0 hd.1 hd.2, ?_⟩
  refine Nat.le_trans (List.length_filter_le _ _) ?_
  unfold Z.allM
  have hNN : N * N ≤ 576 := Nat.mul_le_mul h24 h24
  simp only [List.flatMap_cons, List.flatMap_nil, List.length_append, List.length_flatMap, List.length_map, List.length_range, List.length_nil, List.map_const', List.sum_replicate_nat, Int.toNat_natCast]
  have : G * (N * N) ≤ 6 * 576 := Nat.mul_le_mul (by have := h.g; omega) hNN
  omega
theorem smB_of {x y : Int} (h : -1048576 ≤ x ∧ x ≤ 1048576 ∧ -1048576 ≤ y ∧ y ≤ 1048576) : smB x y = true := by simp [smB]; omega
theorem mv_wf {m : Mv} {g : Int} (hg : g = 4 ∨ g = 6) (ht : okT g m) : m.t ≤ 6 := by unfold okT at ht; omega
/-- Compose of two moves of the torus. -/
theorem Compose_torus (g : Int) (N : Nat) (f h : Mv) (w : World) (hg : g = 4 ∨ g = 6) (h24 : N ≤ 24) (of : okT g f) (oh : okT g h) (bf : 0 ≤ f.o.1 ∧ f.o.1 < N ∧ 0 ≤ f.o.2 ∧ f.o.2 < N) (bh : 0 ≤ h.o.1 ∧ h.o.1 < N ∧ 0 ≤ h.o.2 ∧ h.o.2 < N) :
    Calls Try.prog 36 #[.int .i64 (g), .agg #[.int .i64 (f.t), .bool (f.f), .int .i64 (f.o.1), .int .i64 (f.o.2)], .agg #[.int .i64 (h.t), .bool (h.f), .int .i64 (h.o.1), .int .i64 (h.o.2)]] w fun e w' => e = .returned (.tuple #[mvV (both g f h), .int .i64 (0)]) ∧ Below w.heap.size w w' := by
  have h1 := Compose_any g f.t f.o.1 f.o.2 h.t h.o.1 h.o.2 f.f h.f w (by omega) (by have := mv_wf hg of; omega) (by omega) (by omega) (by have := mv_wf hg oh; omega) (by omega) (by omega)
  have hs := To_small hg f.t f.f (x := h.o.1) (y := h.o.2) (ox := f.o.1) (oy := f.o.2) (by omega) (by omega) (by omega) (by omega)
  have h2 : smB (both g f h).o.1 (both g f h).o.2 = true := smB_of (by
    have e : (both g f h).o = To g ⟨f.t, f.f, (f.o.1, f.o.2)⟩ (h.o.1, h.o.2) := rfl
    rw [e]; omega)
  rw [coV_ok ⟨hg, of, smB_of (by omega)⟩ ⟨hg, oh, smB_of (by omega)⟩, if_neg (by rw [h2]; simp)] at h1
  exact h1
theorem Inverse_torus (g : Int) (N : Nat) (f : Mv) (w : World) (hg : g = 4 ∨ g = 6) (h24 : N ≤ 24) (of : okT g f) (bf : 0 ≤ f.o.1 ∧ f.o.1 < N ∧ 0 ≤ f.o.2 ∧ f.o.2 < N) :
    Calls Try.prog 37 #[.int .i64 (g), .agg #[.int .i64 (f.t), .bool (f.f), .int .i64 (f.o.1), .int .i64 (f.o.2)]] w fun e w' => e = .returned (.tuple #[mvV (inv g f), .int .i64 (0)]) ∧ Below w.heap.size w w' := by
  have h1 := Inverse_any g f.t f.o.1 f.o.2 f.f w (by omega) (by have := mv_wf hg of; omega) (by omega) (by omega)
  have hs := lin_small hg (Z.invT g f) f.f (x := f.o.1) (y := f.o.2) (by omega) (by omega)
  rcases inV_cases g f.t f.f f.o.1 f.o.2 with ⟨e, he, h2⟩ | ⟨n, hn, _, _, h2⟩
  · exfalso
    have h3 : inV g f.t f.f f.o.1 f.o.2 = .tuple #[mvV (inv g f), .int .i64 (0)] := by
      have o1 : OkM g f := ⟨hg, of, smB_of (by omega)⟩
      have h4 : smB (inv g f).o.1 (inv g f).o.2 = true := smB_of (by
        have e : (inv g f).o = Z.neg (lin g (Z.invT g f) f.f (f.o.1, f.o.2)) := rfl
        rw [e]; unfold Z.neg; simp only; omega)
      unfold inV
      rw [if_neg (by simp [o1.w])]
      show (if smB (inv g ⟨((f.t : Nat) : Int).toNat, f.f, (f.o.1, f.o.2)⟩).o.1 _ = false then _ else _) = _
      rw [Int.toNat_natCast, if_neg (by rw [h4]; simp)]
    rw [h3] at h2
    injection h2 with h2
    injection h2 with h2
    injection h2 with _ h2
    injection h2 with h2
    injection h2 with _ h2
    exact he h2.symm
  · obtain rfl : f.t = n := by omega
    rw [h2] at h1
    exact h1
theorem has_mem {L : List Mv} {m : Mv} (h : m ∈ L) : hasB L m = true := decide_eq_true h
set_option maxRecDepth 100000 in
set_option maxHeartbeats 8000000 in
theorem closes_ok (G W H n N : Nat) (a : Option Addr) (c : Nat) (cs : List Int) (i k : Nat) (w : World) (hI : IsInts w a n cs) (h : ChOk G W H n cs) (hN : torN W H = N) (h24 : N ≤ 24) (h0 : 0 < N) (hi : i ≤ 9223372036854775807) (hk : k ≤ 9223372036854775807) :
    Calls Try.prog 8 #[.agg #[.int .i64 (G), .int .i64 (W), .int .i64 (H), .slice a n c], .int .i64 (i), .int .i64 (k)] w fun r w' => r = .returned (.bool true) ∧ Below w.heap.size w w' := by
  have HM := Lib.hid (fun w hI => Moves_ok G W H n N a c cs w hI h hN h24 h0)
  have HT := Lib.hid (torOk (a := a) (c := c) h hN h24).1
  have hg : (G : Int) = 4 ∨ (G : Int) = 6 := by have := h.g; omega
  obtain ⟨grp, per, hh, hlen⟩ := moves_facts h hN h24 h0
  have HI := Lib.hid hI
  unfold MvPost at HM
  generalize Z.movesL W H cs G N = L at *
  have hl0 : 0 < L.length := by
    cases L with
    | nil => simp at hh
    | cons x l => simp
  have hg0 : L.getD 0 idm = idm := by rw [List.getD_eq_getElem?_getD, hh]; rfl
  have q1 : ((L.length : Int) == 0) = false := by rw [beq_eq_false_iff_ne]; omega
  have q2 : decide ((N : Int) < 1) = false := by simp; omega
  have q3 : decide (N < 1) = false := by simp; omega
  have q4 : decide ((i : Int) < 0) = false := by simp
  have q5 : decide ((k : Int) < 0) = false := by simp
  have q6 : (L.length : Int) ≠ 0 := by omega
  have q7 : ¬ L.length = 0 := by omega
  have hn2 : (0 : Int) < N := by omega
  obtain ⟨f, hf, hfe⟩ : ∃ f ∈ L, L.getD (i % L.length) idm = f := ⟨_, by
    have hlt := Nat.mod_lt i hl0
    rw [List.getD_eq_getElem?_getD, List.getElem?_eq_getElem hlt]; exact List.getElem_mem hlt, rfl⟩
  obtain ⟨g, hgm, hge⟩ : ∃ f ∈ L, L.getD (k % L.length) idm = f := ⟨_, by
    have hlt := Nat.mod_lt k hl0
    rw [List.getD_eq_getElem?_getD, List.getElem?_eq_getElem hlt]; exact List.getElem_mem hlt, rfl⟩
  have HCO := Lib.hid (fun w => Compose_torus G N f g w hg h24 (grp.ok hf) (grp.ok hgm) (grp.bd hf) (grp.bd hgm))
  have HIN := Lib.hid (fun w => Inverse_torus G N f w hg h24 (grp.ok hf) (grp.bd hf))
  have HH1 : Hid (hasB L (redM N (both G f g)) = true) := Lib.hid (has_mem (grp.mul hg hn2 per hf hgm))
  have HH2 : Hid (hasB L (redM N (inv G f)) = true) := Lib.hid (has_mem (grp.inv hg hn2 per hf))
  have hb1 := To_small hg f.t f.f (x := g.o.1) (y := g.o.2) (ox := f.o.1) (oy := f.o.2) (by have := grp.bd hgm; omega) (by have := grp.bd hgm; omega) (by have := grp.bd hf; omega) (by have := grp.bd hf; omega)
  have hb2 := lin_small hg (Z.invT G f) f.f (x := f.o.1) (y := f.o.2) (by have := grp.bd hf; omega) (by have := grp.bd hf; omega)
  have hb3 : (-100 ≤ (both G f g).o.1 ∧ (both G f g).o.1 ≤ 100) ∧ (-100 ≤ (both G f g).o.2 ∧ (both G f g).o.2 ≤ 100) := by
    have e : (both G f g).o = To G ⟨f.t, f.f, (f.o.1, f.o.2)⟩ (g.o.1, g.o.2) := rfl
    rw [e]; omega
  have hb4 : (-100 ≤ (inv G f).o.1 ∧ (inv G f).o.1 ≤ 100) ∧ (-100 ≤ (inv G f).o.2 ∧ (inv G f).o.2 ≤ 100) := by
    have e : (inv G f).o = Z.neg (lin G (Z.invT G f) f.f (f.o.1, f.o.2)) := rfl
    rw [e]; unfold Z.neg; simp only; omega
  generalize both G f g = m1 at *
  generalize inv G f = m2 at *
  have HFE := Lib.hid hfe; have HGE := Lib.hid hge
  have HG0 := Lib.hid hg0
  clear hI hN hh h hg0 hfe hge hb1 hb2 grp per hf hgm hg hn2
  obtain ⟨t1, f1, x1, y1⟩ := m1
  obtain ⟨t2, f2, x2, y2⟩ := m2
  obtain ⟨tf, ff, xf, yf⟩ := f
  obtain ⟨tg, fg, xg, yg⟩ := g
  simp only [mvV] at HCO HIN hb3 hb4
  obtain ⟨ii, hii⟩ : ∃ ii, i % L.length = ii := ⟨_, rfl⟩
  obtain ⟨kk, hkk⟩ : ∃ kk, k % L.length = kk := ⟨_, rfl⟩
  rw [hii] at HFE
  rw [hkk] at HGE
  have hil : ii < L.length := by rw [← hii]; exact Nat.mod_lt _ hl0
  have hkl : kk < L.length := by rw [← hkk]; exact Nat.mod_lt _ hl0
  have u1 : (i : Int).tmod (L.length : Int) = (ii : Int) := by rw [← hii]; rfl
  have u2 : (k : Int).tmod (L.length : Int) = (kk : Int) := by rw [← hkk]; rfl
  have u3 : IntKind.i64.wrap (ii : Int) = (ii : Int) := IntWalk.i64_in _ (by omega)
  have u4 : IntKind.i64.wrap (kk : Int) = (kk : Int) := IntWalk.i64_in _ (by omega)
  clear hii hkk
  go_enter Try.func8, Try.ntmps8
  (go_wp2_with fail; refine (alive3_any _).mono ?_; rintro r w1 ⟨rfl, hb⟩; obtain ⟨E, d, rfl⟩ := bExt hb; clear hb)
  go_wp2_with fail
  refine (HM.out _ (HI.out.below (by repeat (first | exact Below.refl _ _ | refine Below.drew ?_ | refine below_drewN ?_ _ | refine Below.alloc ?_ (by first | exact Nat.le_refl _ | (simp; done) | (simp; omega) | omega) _ | refine Below.setCell ?_ (by first | exact Nat.le_refl _ | (simp; done) | (simp; omega) | omega) _ | refine bExtW ?_ (by first | exact Nat.le_refl _ | (simp; done) | (simp; omega) | omega) | refine Below.trans ?_ (Below.mono (by assumption) (by first | exact Nat.le_refl _ | (simp; done) | (simp; omega) | omega)))))).mono ?_
  rintro r w2 ⟨⟨A, C, rfl, hM⟩, hb2⟩
  have HMV := Lib.hid hM.moves
  have HA1 := Lib.hid (fun w hL => has_ok L L.length N t1 f1 x1 y1 A C w hL (by omega) h0 (by omega) (by omega) (by omega))
  have HA2 := Lib.hid (fun w hL => has_ok L L.length N t2 f2 x2 y2 A C w hL (by omega) h0 (by omega) (by omega) (by omega))
  rw [HH1.out] at HA1
  rw [HH2.out] at HA2
  obtain ⟨b, o, rfl, hb, hc⟩ := hM.moves.2 hl0
  obtain ⟨c0, c1, c2, c3⟩ := hc 0 hl0
  obtain ⟨p0, p1, p2, p3⟩ := hc ii hil
  obtain ⟨r0, r1, r2, r3⟩ := hc kk hkl
  rw [HG0.out] at c0 c1 c2 c3
  rw [HFE.out] at p0 p1 p2 p3
  rw [HGE.out] at r0 r1 r2 r3
  simp only [idm, Nat.zero_mul, Nat.add_zero] at c0 c1 c2 c3
  simp only at p0 p1 p2 p3 r0 r1 r2 r3
  have lb : LtW b w2 := hb
  have bx0 : w2.cell? ⟨w.heap.size, 0, none⟩ = some (.int .i64 (G)) := bCs hb2 (by simp [go_sem])
  have bx1 : w2.cell? ⟨w.heap.size, 1, none⟩ = some (.int .i64 (W)) := bCs hb2 (by simp [go_sem])
  have bx2 : w2.cell? ⟨w.heap.size, 2, none⟩ = some (.int .i64 (H)) := bCs hb2 (by simp [go_sem])
  have bx3 : w2.cell? ⟨w.heap.size, 3, none⟩ = some (.slice a n c) := bCs hb2 (by simp [go_sem])
  have lbx : LtW w.heap.size w2 := World.block_lt_of_cell? _ _ bx0
  have hbw : Below w.heap.size w w2 := (by repeat (first | exact Below.refl _ _ | refine Below.drew ?_ | refine below_drewN ?_ _ | refine Below.alloc ?_ (by first | exact Nat.le_refl _ | (simp; done) | (simp; omega) | omega) _ | refine Below.setCell ?_ (by first | exact Nat.le_refl _ | (simp; done) | (simp; omega) | omega) _ | refine bExtW ?_ (by first | exact Nat.le_refl _ | (simp; done) | (simp; omega) | omega) | refine Below.trans ?_ (Below.mono (by assumption) (by first | exact Nat.le_refl _ | (simp; done) | (simp; omega) | omega))))
  have hsz2 : w.heap.size ≤ w2.heap.size := hbw.size
  clear hb hc hM hb2
  (go_wp2_with fail; refine (HT.out _ (HI.out.below (by repeat (first | exact Below.refl _ _ | refine Below.drew ?_ | refine below_drewN ?_ _ | refine Below.alloc ?_ (by first | exact Nat.le_refl _ | (simp; done) | (simp; omega) | omega) _ | refine Below.setCell ?_ (by first | exact Nat.le_refl _ | (simp; done) | (simp; omega) | omega) _ | refine bExtW ?_ (by first | exact Nat.le_refl _ | (simp; done) | (simp; omega) | omega) | refine Below.trans ?_ (Below.mono (by assumption) (by first | exact Nat.le_refl _ | (simp; done) | (simp; omega) | omega)))))).mono ?_; rintro r w1 ⟨rfl, hb⟩; obtain ⟨E, d, rfl⟩ := bExt hb; clear hb)
  go_wp2_with fail
  go_region
  all_goals
    (go_wp2_with fail; refine (HCO.out _).mono ?_; rintro r w1 ⟨rfl, hb⟩; obtain ⟨E, d, rfl⟩ := bExt hb; clear hb)
    (go_wp2_with fail; refine (HIN.out _).mono ?_; rintro r w1 ⟨rfl, hb⟩; obtain ⟨E, d, rfl⟩ := bExt hb; clear hb)
    (go_wp2_with fail; refine (HA1.out _ (HMV.out.below (by repeat (first | exact Below.refl _ _ | refine Below.drew ?_ | refine below_drewN ?_ _ | refine Below.alloc ?_ (by first | exact Nat.le_refl _ | (simp; done) | (simp; omega) | omega) _ | refine Below.setCell ?_ (by first | exact Nat.le_refl _ | (simp; done) | (simp; omega) | omega) _ | refine bExtW ?_ (by first | exact Nat.le_refl _ | (simp; done) | (simp; omega) | omega) | refine Below.trans ?_ (Below.mono (by assumption) (by first | exact Nat.le_refl _ | (simp; done) | (simp; omega) | omega)))))).mono ?_; rintro r w1 ⟨rfl, hb⟩; obtain ⟨E, d, rfl⟩ := bExt hb; clear hb)
    (go_wp2_with fail; refine (HA2.out _ (HMV.out.below (by repeat (first | exact Below.refl _ _ | refine Below.drew ?_ | refine below_drewN ?_ _ | refine Below.alloc ?_ (by first | exact Nat.le_refl _ | (simp; done) | (simp; omega) | omega) _ | refine Below.setCell ?_ (by first | exact Nat.le_refl _ | (simp; done) | (simp; omega) | omega) _ | refine bExtW ?_ (by first | exact Nat.le_refl _ | (simp; done) | (simp; omega) | omega) | refine Below.trans ?_ (Below.mono (by assumption) (by first | exact Nat.le_refl _ | (simp; done) | (simp; omega) | omega)))))).mono ?_; rintro r w1 ⟨rfl, hb⟩; obtain ⟨E, d, rfl⟩ := bExt hb; clear hb)
    go_wp2
    go_ret
    exact ⟨rfl, (by repeat (first | exact Below.refl _ _ | refine Below.drew ?_ | refine below_drewN ?_ _ | refine Below.alloc ?_ (by first | exact Nat.le_refl _ | (simp; done) | (simp; omega) | omega) _ | refine Below.setCell ?_ (by first | exact Nat.le_refl _ | (simp; done) | (simp; omega) | omega) _ | refine bExtW ?_ (by first | exact Nat.le_refl _ | (simp; done) | (simp; omega) | omega) | refine Below.trans ?_ (Below.mono (by assumption) (by first | exact Nat.le_refl _ | (simp; done) | (simp; omega) | omega))))⟩
theorem closes_walk (G W H : Int) (a : Option Addr) (n c : Nat) (cs : List Int) (i k : Int) (w : World) (hI : IsInts w a n cs) (h0 : (-9223372036854775808 ≤ G ∧ G ≤ 9223372036854775807)) (h1 : (-9223372036854775808 ≤ W ∧ W ≤ 9223372036854775807)) (h2 : (-9223372036854775808 ≤ H ∧ H ≤ 9223372036854775807)) (h3 : n ≤ 9223372036854775807) (hi : (-9223372036854775808 ≤ i ∧ i ≤ 9223372036854775807)) (hk : (-9223372036854775808 ≤ k ∧ k ≤ 9223372036854775807)) :
    Calls Try.prog 8 #[.agg #[.int .i64 (G), .int .i64 (W), .int .i64 (H), .slice a n c], .int .i64 (i), .int .i64 (k)] w fun r w' => r = .returned (.bool true) ∧ Below w.heap.size w w' := by
  rcases chart_cases G W H a n c cs h0 h1 h2 h3 with ⟨e, hT⟩ | ⟨G', W', H', N, rfl, rfl, rfl, h, hN, hp, h24⟩
  · exact closes_bad G W H a n c cs i k w hI e hT
  · by_cases hik : i < 0 ∨ k < 0
    · exact closes_neg G' W' H' n N a c cs i k w hI h hN h24 hp hik
    · obtain ⟨i', rfl⟩ := Int.eq_ofNat_of_zero_le (show 0 ≤ i by omega)
      obtain ⟨k', rfl⟩ := Int.eq_ofNat_of_zero_le (show 0 ≤ k by omega)
      exact closes_ok G' W' H' n N a c cs i' k' w hI h hN h24 hp (by omega) (by omega)
end Go.Proofs.Ytdaacjaibfcacaa
