/- Lemmas and contracts of functions (what each call returns, and that it changes nothing that was there) that the proof of a law of this seat uses; each lemma states its own conditions. -/
import Derived.Test.YtdaacjaibfcacaaB34
namespace Go.Proofs.Ytdaacjaibfcacaa
open Go.RowKit
set_option linter.unusedVariables false
set_option linter.unusedSimpArgs false
open Z (torN place pnt Mv To lin okT nrm keepB colP idm md redM firstB rankP act)
def ptK (p : Z.Pt) : List Value := [.int .i64 p.1, .int .i64 p.2]
def ptsK (L : List Z.Pt) : List Value := L.flatMap ptK
theorem ptsK_app (L : List Z.Pt) (p : Z.Pt) : ptsK (L ++ [p]) = ptsK L ++ ptK p := by unfold ptsK; rw [List.flatMap_append]; simp
theorem ptsK_get : ∀ (L : List Z.Pt) (j r : Nat), j < L.length → r < 2 → (ptsK L)[2 * j + r]? = (ptK (L.getD j (0, 0)))[r]?
  | [], j, r, h, _ => absurd h (by simp)
  | m :: L, 0, r, _, hr => by
    unfold ptsK
    rw [List.flatMap_cons, List.getElem?_append_left (by simp [ptK]; omega)]
    simp
  | m :: L, j + 1, r, h, hr => by
    have ih := ptsK_get L j r (by simpa using h) hr
    unfold ptsK at ih ⊢
    rw [List.flatMap_cons, List.getElem?_append_right (by simp [ptK]; omega)]
    rw [show 2 * (j + 1) + r - (ptK m).length = 2 * j + r by simp [ptK]; omega, ih]
    simp
/-- A list of points in memory. -/
def IsPts (w : World) (a : Option Addr) (n : Nat) (L : List Z.Pt) : Prop :=
  L.length = n ∧ (0 < n → ∃ b o, a = some ⟨b, o, none⟩ ∧ b < w.heap.size ∧ ∀ j, j < n → w.cell? ⟨b, o + j * 2, none⟩ = some (.int .i64 (L.getD j (0, 0)).1) ∧ w.cell? ⟨b, o + j * 2 + 1, none⟩ = some (.int .i64 (L.getD j (0, 0)).2))
theorem IsPts.below {w w' : World} {a : Option Addr} {n : Nat} {L : List Z.Pt} (h : IsPts w a n L) (hb : Below w.heap.size w w') : IsPts w' a n L := by
  refine ⟨h.1, fun hn => ?_⟩
  obtain ⟨b, o, h1, h2, h3⟩ := h.2 hn
  refine ⟨b, o, h1, Nat.lt_of_lt_of_le h2 hb.size, fun j hj => ?_⟩
  obtain ⟨c0, c1⟩ := h3 j hj
  exact ⟨bCs hb c0, bCs hb c1⟩
def OwnP (w : World) (base : Nat) (A : Option Addr) (n C : Nat) (L : List Z.Pt) : Prop := L.length = n ∧ w.ownsRow base 38 2 (.slice A n C) n (ptsK L)
theorem OwnP.pts {w : World} {base n C : Nat} {A : Option Addr} {L : List Z.Pt} (h : OwnP w base A n C L) : IsPts w A n L := by
  obtain ⟨hl, h2⟩ := h
  refine ⟨hl, fun hn => ?_⟩
  rcases h2.2 with ⟨e, e0⟩ | ⟨g, cap, cur, e, hb, hg, h3, h4, h5, h6⟩
  · omega
  · injection e with e1
    refine ⟨g, 0, e1, (Array.getElem?_eq_some_iff.1 hg).1, fun j hj => ?_⟩
    have hc : ∀ r, r < 2 → w.cell? ⟨g, 0 + j * 2 + r, none⟩ = (ptK (L.getD j (0, 0)))[r]? := fun r hr => by
      have h7 : cur[2 * j + r]? = (ptK (L.getD j (0, 0)))[r]? := by
        rw [← Array.getElem?_toList, ← List.getElem?_take_of_lt (show 2 * j + r < n * 2 by omega), h6]
        exact ptsK_get L j r (by omega) hr
      rw [show 0 + j * 2 + r = 2 * j + r by omega]
      simp [World.cell?, hg, h7]
    exact ⟨hc 0 (by omega), hc 1 (by omega)⟩
theorem okPt : ElemOk 49 38 2 16 (.agg #[.int .i64 0, .int .i64 0]) := ⟨Try.underlying49, by kernel_rfl, rfl, by omega⟩
/-- A list of points and what is wrong. -/
def PtPost (L : List Z.Pt) (e : Int) (w : World) (r : Ending) (w' : World) : Prop := (∃ A C, r = .returned (.tuple #[.slice A L.length C, .int .i64 (e)]) ∧ OwnP w' w.heap.size A L.length C L) ∧ Below w.heap.size w w'
theorem OwnP.none (w : World) (b : Nat) : OwnP w b none 0 0 [] := ⟨rfl, World.ownsRow_nil _ _ _ _⟩
theorem row_notOwn {w : World} {b t n base e size k : Nat} {f : Nat → Value} {v : Value} {xs : List Value} (hr : w.rowIs b t n f) (h : w.ownsRow base e size v k xs) (hne : t ≠ e) : some b ≠ v.ownBlock := by
  rcases h.2 with ⟨rfl, _⟩ | ⟨g, cap, cur, rfl, _, hg, _⟩
  · simp [Value.ownBlock]
  · intro e'
    have e2 : b = g := by simpa [Value.ownBlock] using e'
    subst e2
    obtain ⟨cs, hb, _⟩ := hr
    rw [hb] at hg
    injection hg with hg
    injection hg with _ h5
    exact hne h5
theorem row_ne {w : World} {b b' t t' n n' : Nat} {f f' : Nat → Value} (h : w.rowIs b t n f) (h' : w.rowIs b' t' n' f') (hne : t ≠ t') : b ≠ b' := by
  rintro rfl
  obtain ⟨c, h1, _⟩ := h
  obtain ⟨c', h2, _⟩ := h'
  rw [h1] at h2
  injection h2 with h2
  injection h2 with _ h3
  exact hne h3
/-- What lies in memory while the points are sought. -/
structure DS (sb xb : Nat) (W0 : World) (g n : Int) (A : Option Addr) (M C : Nat) (B : Option Addr) (D : Nat) (ML : List Mv) (f : Nat → Bool) (ov : Value) (OL : List Z.Pt) (w : World) : Prop where
  s : w.rowIs sb 4 M (fun j => .bool (f j))
  x : w.rowIs xb 109 3 (clF g n (.slice A M C))
  m : ∃ b, OwnM w b B ML.length D ML
  o : w.ownsRow W0.heap.size 38 2 ov OL.length (ptsK OL)
  lo : W0.heap.size ≤ sb
  bel : Below W0.heap.size W0 w
section
variable {sb xb M C D : Nat} {W0 w w' : World} {g n : Int} {A B : Option Addr} {ML : List Mv} {f f' : Nat → Bool} {ov : Value} {OL : List Z.Pt}
theorem DS.grow (h : DS sb xb W0 g n A M C B D ML f ov OL w) (hb : Below w.heap.size w w') : DS sb xb W0 g n A M C B D ML f ov OL w' :=
  ⟨rowBelow h.s hb h.s.lt, rowBelow h.x hb h.x.lt, h.m.imp fun _ k => k.below hb, ownBelow h.o hb, h.lo, h.bel.trans (hb.mono h.bel.size)⟩
theorem DS.alloc (h : DS sb xb W0 g n A M C B D ML f ov OL w) (o : Obj) : DS sb xb W0 g n A M C B D ML f ov OL (w.alloc o) := h.grow ((Below.refl _ _).alloc (Nat.le_refl _) _)
theorem DS.see (h : DS sb xb W0 g n A M C B D ML f ov OL w) (i : Nat) (hf : ∀ j, j < M → f' j = (f j || i == j)) : DS sb xb W0 g n A M C B D ML f' ov OL (w.setCell ⟨sb, i, none⟩ (.bool true)) :=
  ⟨(h.s.set i _).congr fun j hj => by
    show (if j = i then Value.bool true else .bool (f j)) = .bool (f' j)
    rw [hf j hj]
    by_cases e : j = i
    · subst e; simp
    · rw [if_neg e]; simp [Ne.symm e], h.x.setOther (a := ⟨sb, i, none⟩) (row_ne h.x h.s (by decide)) _, h.m.imp fun _ k => k.setRow h.s (by decide), own_setRow h.o h.s (by decide), h.lo, h.bel.setCell (p := ⟨sb, i, none⟩) h.lo _⟩
theorem DS.congr (h : DS sb xb W0 g n A M C B D ML f ov OL w) (hf : ∀ j, j < M → f' j = f j) : DS sb xb W0 g n A M C B D ML f' ov OL w :=
  ⟨h.s.congr fun j hj => by show Value.bool (f j) = .bool (f' j); rw [hf j hj], h.x, h.m, h.o, h.lo, h.bel⟩
theorem DS.app {p : Z.Pt} {A' : Option Addr} {c' : Nat} (h : DS sb xb W0 g n A M C B D ML f ov OL w) (hown : w'.ownsRow W0.heap.size 38 2 (.slice A' (OL.length + 1) c') (OL.length + 1) (ptsK OL ++ (#[Value.int .i64 p.1, .int .i64 p.2]).toList)) (hg : (w.alloc (.cells #[.int .i64 p.1, .int .i64 p.2] 38)).grownBy w' ov.ownBlock) (hb : Below W0.heap.size w w') : DS sb xb W0 g n A M C B D ML f (.slice A' (OL.length + 1) c') (OL ++ [p]) w' := by
  have h2 := h.alloc (.cells #[.int .i64 p.1, .int .i64 p.2] 38)
  refine ⟨h2.s.of_block (hg.block sb h2.s.lt (row_notOwn h2.s h2.o (by decide))), h2.x.of_block (hg.block xb h2.x.lt (row_notOwn h2.x h2.o (by decide))), h2.m.imp fun _ k => k.grownT h2.o (by decide) hg, ?_, h.lo, h.bel.trans hb⟩
  rw [ptsK_app, List.length_append]
  exact hown
end
set_option maxRecDepth 100000 in
set_option maxHeartbeats 8000000 in
theorem Domain_bad (G W H : Int) (a : Option Addr) (n c : Nat) (cs : List Int) (w : World) (hI : IsInts w a n cs) (e : Int) (hT : TorBad e (.agg #[.int .i64 (G), .int .i64 (W), .int .i64 (H), .slice a n c]) a n cs) :
    Calls Try.prog 29 #[.agg #[.int .i64 (G), .int .i64 (W), .int .i64 (H), .slice a n c]] w (PtPost [] e w) := by
  have hb : (e != 0) = true := by simpa using hT.1
  have HL := Lib.hid (fun w hI => laid_bad G W H a n c cs w hI e hT.1 hT.2.1)
  have HI := Lib.hid hI
  clear hI hT
  go_enter Try.func29, Try.ntmps29
  (go_wp2_with fail; refine (HL.out _ (HI.out.below (by repeat (first | exact Below.refl _ _ | refine Below.drew ?_ | refine below_drewN ?_ _ | refine Below.alloc ?_ (by first | exact Nat.le_refl _ | (simp; done) | (simp; omega) | omega) _ | refine Below.setCell ?_ (by first | exact Nat.le_refl _ | (simp; done) | (simp; omega) | omega) _ | refine bExtW ?_ (by first | exact Nat.le_refl _ | (simp; done) | (simp; omega) | omega) | refine Below.trans ?_ (Below.mono (by assumption) (by first | exact Nat.le_refl _ | (simp; done) | (simp; omega) | omega)))))).mono ?_; rintro r w1 ⟨rfl, hb⟩; obtain ⟨E, d, rfl⟩ := bExt hb; clear hb)
  go_wp2
  go_ret2
  exact ⟨⟨none, 0, rfl, OwnP.none _ _⟩, (by repeat (first | exact Below.refl _ _ | refine Below.drew ?_ | refine below_drewN ?_ _ | refine Below.alloc ?_ (by first | exact Nat.le_refl _ | (simp; done) | (simp; omega) | omega) _ | refine Below.setCell ?_ (by first | exact Nat.le_refl _ | (simp; done) | (simp; omega) | omega) _ | refine bExtW ?_ (by first | exact Nat.le_refl _ | (simp; done) | (simp; omega) | omega) | refine Below.trans ?_ (Below.mono (by assumption) (by first | exact Nat.le_refl _ | (simp; done) | (simp; omega) | omega))))⟩
/-- Which places are seen behind p points, and of the next one i moves. -/
def seenB (g : Int) (n : Nat) (L : List Mv) (p j : Nat) : Bool := (List.range p).any fun q => firstB g n L (pnt n q) && L.any fun m => rankP n (act g n m (pnt n q)) == j
def seenI (g : Int) (n : Nat) (L : List Mv) (p i j : Nat) : Bool := seenB g n L p j || (L.take i).any fun m => rankP n (act g n m (pnt n p)) == j
def firstsP (g : Int) (n : Nat) (L : List Mv) (p : Nat) : List Z.Pt := ((List.range p).filter fun k => firstB g n L (pnt n k)).map (pnt n)
theorem seenB_succ (g : Int) (n : Nat) (L : List Mv) (p j : Nat) : seenB g n L (p + 1) j = (seenB g n L p j || (firstB g n L (pnt n p) && L.any fun m => rankP n (act g n m (pnt n p)) == j)) := by
  unfold seenB; rw [List.range_succ, List.any_append]; simp
theorem seenI_all {g : Int} {n : Nat} {L : List Mv} {p : Nat} (h : firstB g n L (pnt n p) = true) (j : Nat) : seenB g n L (p + 1) j = seenI g n L p L.length j := by
  rw [seenB_succ, h, Bool.true_and]; unfold seenI; rw [List.take_length]
theorem seenI_succ {g : Int} {n : Nat} {L : List Mv} {p i : Nat} (hi : i < L.length) (j : Nat) : seenI g n L p (i + 1) j = (seenI g n L p i j || rankP n (act g n (L.getD i idm) (pnt n p)) == j) := by
  unfold seenI
  rw [List.take_add_one, List.getElem?_eq_getElem hi, List.any_append, List.getD_eq_getElem?_getD, List.getElem?_eq_getElem hi]
  simp [Bool.or_assoc]
theorem seenB_iff {g : Int} {n : Nat} {L : List Mv} {p : Nat} {col : Z.Pt → Int} (hg : Z.G g) (hn : 0 < n) (hp : Z.Per n col) (h : Z.Grp g n col L) (hk : p < n * n) : seenB g n L p p = !firstB g n L (pnt n p) := by
  have h1 := Z.seen_first hg hn hp h hk
  unfold seenB
  cases hf : firstB g n L (pnt n p) with
  | false =>
    obtain ⟨q, hq, h2, m, hm, h3⟩ := h1.2 hf
    simp only [Bool.not_false]
    rw [List.any_eq_true]
    exact ⟨q, List.mem_range.2 hq, by rw [h2, Bool.true_and, List.any_eq_true]; exact ⟨m, hm, by simpa using h3⟩⟩
  | true =>
    simp only [Bool.not_true]
    rw [List.any_eq_false]
    intro q hq e
    rw [Bool.and_eq_true, List.any_eq_true] at e
    obtain ⟨e1, m, hm, e2⟩ := e
    have := h1.1 ⟨q, List.mem_range.1 hq, e1, m, hm, by simpa using e2⟩
    rw [hf] at this; cases this
theorem firstsP_succ (g : Int) (n : Nat) (L : List Mv) (p : Nat) : firstsP g n L (p + 1) = if firstB g n L (pnt n p) then firstsP g n L p ++ [pnt n p] else firstsP g n L p := by
  unfold firstsP
  rw [List.range_succ, List.filter_append]
  simp only [List.filter_cons, List.filter_nil]
  split <;> simp
theorem firstsP_len (g : Int) (n : Nat) (L : List Mv) (p : Nat) : (firstsP g n L p).length ≤ p := by
  unfold firstsP
  rw [List.length_map]
  exact Nat.le_trans (List.length_filter_le _ _) (by simp)
set_option maxRecDepth 100000 in
set_option maxHeartbeats 8000000 in
theorem Domain_ok (G W H n N : Nat) (a : Option Addr) (c : Nat) (cs : List Int) (w : World) (hI : IsInts w a n cs) (h : ChOk G W H n cs) (hN : torN W H = N) (h24 : N ≤ 24) (hp : 0 < N) (hml : (Z.movesL W H cs G N).length ≤ 10000) :
    Calls Try.prog 29 #[.agg #[.int .i64 (G), .int .i64 (W), .int .i64 (H), .slice a n c]] w (PtPost (firstsP G N (Z.movesL W H cs G N) (N * N)) 0 w) := by
  obtain ⟨M, hM⟩ : ∃ M, N * N = M := ⟨_, rfl⟩
  have hM6 : M ≤ 576 := by rw [← hM]; exact Nat.mul_le_mul h24 h24
  have hd := Z.torN_dvd W H
  rw [hN] at hd
  have hg : (G : Int) = 4 ∨ (G : Int) = 6 := by have := h.g; omega
  have HL := Lib.hid (fun w hI => laid_ok G W H n N M a c cs w hI h hN h24 hM)
  have HA := Lib.hid (fun a c w hI => all_ok G W H N M a c cs w hI h.g hp h24 hM hd.1 hd.2)
  have grp := Z.movesL_grp (cs := cs) (g := (G : Int)) hp hd.1 hd.2
  have HSE := Lib.hid (fun p (hk : p < M) => seenB_iff hg hp (Z.colP_per cs hd.1 hd.2) grp (by rw [hM]; exact hk))
  generalize Z.movesL W H cs G N = L at *
  have HAP := Lib.hid (fun (i : Nat) (x y : Int) w (hi : i < L.length) (hx : 0 ≤ x ∧ x ≤ 24) (hy : 0 ≤ y ∧ y ≤ 24) => (by
    have hm : L.getD i idm ∈ L := by rw [List.getD_eq_getElem?_getD, List.getElem?_eq_getElem hi]; exact List.getElem_mem hi
    have hb := grp.bd hm
    have ho := grp.ok hm
    exact (⟨Apply_small G (L.getD i idm).t (L.getD i idm).f (L.getD i idm).o.1 (L.getD i idm).o.2 x y w hg ho hx hy (by omega) (by omega), To_small hg (L.getD i idm).t (L.getD i idm).f hx hy (ox := (L.getD i idm).o.1) (oy := (L.getD i idm).o.2) (by omega) (by omega)⟩ : _ ∧ _)))
  have HPL := Lib.hid (fun a c x y w h1 h2 => place_ok G N M a c x y w hp h24 h1 h2)
  have HPB : Hid (∀ z, place N z < M) := Lib.hid fun z => by rw [← hM]; exact Z.place_lt hp z
  have hmk := makeRow okBools rfl M (by omega) (by omega)
  have HI := Lib.hid hI
  have HM := Lib.hid hM
  have b1 : ((N : Int) == 0) = false := by rw [beq_eq_false_iff_ne]; omega
  have b2 : (N : Int) ≠ 0 := by omega
  have b3 : ¬ N = 0 := by omega
  unfold PtPost
  rw [hM]
  obtain ⟨RES, hRES⟩ : ∃ R, firstsP G N L M = R := ⟨_, rfl⟩
  rw [hRES]
  have HRES := Lib.hid hRES
  clear hI hN hM hRES h hd hg grp
  go_enter Try.func29, Try.ntmps29
  go_wp2_with fail
  refine (HL.out _ (HI.out.below (by repeat (first | exact Below.refl _ _ | refine Below.drew ?_ | refine below_drewN ?_ _ | refine Below.alloc ?_ (by first | exact Nat.le_refl _ | (simp; done) | (simp; omega) | omega) _ | refine Below.setCell ?_ (by first | exact Nat.le_refl _ | (simp; done) | (simp; omega) | omega) _ | refine bExtW ?_ (by first | exact Nat.le_refl _ | (simp; done) | (simp; omega) | omega) | refine Below.trans ?_ (Below.mono (by assumption) (by first | exact Nat.le_refl _ | (simp; done) | (simp; omega) | omega)))))).mono ?_
  rintro r w2 ⟨⟨A, C, rfl, hA⟩, hb2⟩
  have HB2 : Hid (Below w.heap.size w w2 ∧ w.heap.size < w2.heap.size) := Lib.hid (by
    have h1 := hb2.size
    rw [World.size_alloc] at h1
    exact ⟨((Below.refl _ _).alloc (Nat.le_refl _) _).trans (hb2.mono (by simp)), by omega⟩)
  have HAI := Lib.hid hA.ints
  clear hA hb2
  go_wp2_with fail
  have hal : Below w2.heap.size w2 ((w2.alloc (.cells #[.int .i64 (G : Int), .int .i64 (N : Int), .slice A M C] 109)).alloc (.cells (madeCells #[.bool false] M) 4)) := ((Below.refl _ _).alloc (Nat.le_refl _) _).alloc (by simp) _
  refine (HA.out A C _ (HAI.out.below hal)).mono ?_
  rintro r w3 ⟨⟨B, D, rfl, hB⟩, hb3⟩
  have hD0 : DS (w2.heap.size + 1) w2.heap.size w G N A M C B D L (fun _ => false) (.slice none 0 0) [] w3 := by
    have h1 := World.rowIs_made (w2.alloc (.cells #[.int .i64 (G : Int), .int .i64 (N : Int), .slice A M C] 109)) (.bool false) M 4
    have h2 := (clF_alloc w2 G N A M C).alloc (.cells (madeCells #[.bool false] M) 4)
    rw [World.size_alloc] at h1
    exact ⟨rowBelow h1 hb3 h1.lt, rowBelow h2 hb3 h2.lt, ⟨_, hB⟩, World.ownsRow_nil _ _ _ _, by have := HB2.out.2; omega, HB2.out.1.trans ((hal.trans (hb3.mono hal.size)).mono (Nat.le_of_lt HB2.out.2))⟩
  obtain ⟨xb, hxb⟩ : ∃ xb, w2.heap.size = xb := ⟨_, rfl⟩
  obtain ⟨sb, hsb⟩ : ∃ sb, xb + 1 = sb := ⟨_, rfl⟩
  rw [hxb, hsb] at hD0 ⊢
  have HD0 := Lib.hid hD0
  clear hD0 hB hb3 hal HB2 HAI HL HA hmk hxb hsb
  go_wp2_with fail
  go_loopw [6, 31] (fun ov pv wr => ∃ (p : Nat), p ≤ M ∧ pv = .int .i64 p ∧ Hid (DS sb xb w G N A M C B D L (seenB G N L p) ov (firstsP G N L p) wr)) (fun _ pv _ => M - (intOf pv).toNat)
  case atStart => exact ⟨0, by omega, rfl, HD0⟩
  case round =>
    clear HD0
    obtain ⟨p, hpM, rfl, HD⟩ := hrel
    by_cases hpl : p < M
    · have dp : decide ((p : Int) < (M : Int)) = true := by simpa using hpl
      have vp : IntKind.i64.wrap ((p : Int) + 1) = (p : Int) + 1 := IntWalk.i64_in _ (by omega)
      have cp : wr.cell? ⟨sb, p, none⟩ = some (.bool (seenB G N L p p)) := HD.out.s.cell (i := p) hpl
      rw [HSE.out p hpl] at cp
      have HFS := Lib.hid (firstsP_succ G N L p)
      have HSS := Lib.hid (seenB_succ G N L p)
      have HSA := Lib.hid (fun h j => seenI_all (g := (G : Int)) (n := N) (L := L) (p := p) h j)
      have hfl := firstsP_len G N L p
      cases hfb : firstB G N L (pnt N p) with
      | false =>
        rw [hfb] at cp HFS HSS
        have HD2 : Hid (DS sb xb w G N A M C B D L (seenB G N L (p + 1)) _ (firstsP G N L (p + 1)) wr) := Lib.hid (by
          rw [HFS.out, if_neg (by simp)]
          exact HD.out.congr fun j _ => by rw [HSS.out j]; simp)
        have x0 : (wr).cell? ⟨xb, 0, none⟩ = some (.int .i64 (G : Int)) := (HD.out).x.cell (i := 0) (by omega)
        have x1 : (wr).cell? ⟨xb, 1, none⟩ = some (.int .i64 (N : Int)) := (HD.out).x.cell (i := 1) (by omega)
        have x2 : (wr).cell? ⟨xb, 2, none⟩ = some (.slice A M C) := (HD.out).x.cell (i := 2) (by omega)
        have lx : LtW xb wr := (HD.out).x.lt
        have ls : LtW sb wr := (HD.out).s.lt
        simp only [Bool.not_false] at cp
        go_wp2
        clear x0 x1 x2 lx ls
        go_roundw
        case rel => exact ⟨p + 1, by omega, by go_num, HD2⟩
        case measure => simp [intOf]; omega
      | true =>
        rw [hfb] at cp HFS
        simp only [Bool.not_true] at cp
        have HSA2 := Lib.hid (HSA.out hfb)
        obtain ⟨u, hu⟩ : ∃ u, p % N = u := ⟨_, rfl⟩
        obtain ⟨v, hv⟩ : ∃ v, p / N = v := ⟨_, rfl⟩
        have hu1 : u < N := by rw [← hu]; exact Nat.mod_lt _ hp
        have hv1 : v < N := by rw [← hv]; exact Nat.div_lt_of_lt_mul (by rw [HM.out]; exact hpl)
        have hpn : pnt N p = ((u : Int), (v : Int)) := by unfold pnt; rw [hu, hv]
        have t1 : (p : Int).tmod (N : Int) = (u : Int) := by rw [← hu]; rfl
        have t2 : (p : Int).tdiv (N : Int) = (v : Int) := by rw [← hv]; rfl
        have v1 : IntKind.i64.wrap (u : Int) = (u : Int) := IntWalk.i64_in _ (by omega)
        have v2 : IntKind.i64.wrap (v : Int) = (v : Int) := IntWalk.i64_in _ (by omega)
        have HSI := Lib.hid (fun i (hi : i < L.length) j => seenI_succ (g := (G : Int)) (n := N) (p := p) hi j)
        rw [hpn] at HFS HSI
        have HFS2 : Hid (firstsP G N L (p + 1) = firstsP G N L p ++ [((u : Int), (v : Int))]) := Lib.hid (by rw [HFS.out, if_pos rfl])
        clear hu hv hpn hfb HFS HSS HSA
        have x0 : (wr).cell? ⟨xb, 0, none⟩ = some (.int .i64 (G : Int)) := (HD.out).x.cell (i := 0) (by omega)
        have x1 : (wr).cell? ⟨xb, 1, none⟩ = some (.int .i64 (N : Int)) := (HD.out).x.cell (i := 1) (by omega)
        have x2 : (wr).cell? ⟨xb, 2, none⟩ = some (.slice A M C) := (HD.out).x.cell (i := 2) (by omega)
        have lx : LtW xb wr := (HD.out).x.lt
        have ls : LtW sb wr := (HD.out).s.lt
        go_wp2_with fail
        (refine wp_region_ext_alloc 9 38 (some 10) _ (by kernel_rfl) (by kernel_rfl) rfl allocPt ?_; simp only [List.take_succ_cons, List.take_zero, List.drop_succ_cons, List.drop_zero]; (repeat (first | ((with_reducible refine wpV_step (fun K hK => ?_)); go_simp; first | (refine hK _ ?_; clear hK K) | (apply Exists.intro; refine ⟨fun _ _ => ?_, hK _ ?_⟩; fail; clear hK K)))); refine wpV_nil ?_; intro E d E' d'; go_simp)
        have hbL := built_below wr E d (.cells #[.int .i64 (u : Int), .int .i64 (v : Int)] 38) E' d'
        have hz := ptG_alloc (extW wr E d) u v
        have hz2 := rowBelow hz (bExtW (Below.refl _ _) (Nat.le_refl _) : Below _ _ (extW ((extW wr E d).alloc (.cells #[.int .i64 (u : Int), .int .i64 (v : Int)] 38)) E' d')) hz.lt
        rw [size_extW] at hz2
        have HD4 := Lib.hid (HD.out.grow hbL)
        have HOL := Lib.hid (fun k e => (HD.out.o.lt k e).2)
        have hzge : wr.heap.size ≤ wr.heap.size + E.size := by omega
        have HZ4 := Lib.hid hz2
        have hsw : w.heap.size ≤ (extW ((extW wr E d).alloc (.cells #[.int .i64 (u : Int), .int .i64 (v : Int)] 38)) E' d').heap.size := HD4.out.bel.size
        clear cp hbL hz HD hz2
        go_wp2_with (at_builtin; refine wpAppM (W := (extW ((extW wr E d).alloc (.cells #[.int .i64 (u : Int), .int .i64 (v : Int)] 38)) E' d')) okPt rfl (.tmp 47) (.tmp 49) rfl w.heap.size _ _ _ #[.int .i64 (u : Int), .int .i64 (v : Int)] rfl HD4.out.o (by simp [go_sem]) rfl ?_ (by omega) (by omega) hsw ?_)
        · simp [Value.oneCell']
        intro v' w5 hown5 hg5 hb5
        obtain ⟨A', cp', rfl⟩ := own_form hown5
        have HD5 := Lib.hid (HD4.out.app (p := ((u : Int), (v : Int))) hown5 hg5 hb5)
        obtain ⟨zb, hzb⟩ : ∃ zb, wr.heap.size + E.size = zb := ⟨_, rfl⟩
        rw [hzb] at HZ4 hzge ⊢
        have HZ5 := Lib.hid ((HZ4.out.alloc (.cells #[.int .i64 (u : Int), .int .i64 (v : Int)] 38)).of_block (hg5.block zb (HZ4.out.alloc (.cells #[.int .i64 (u : Int), .int .i64 (v : Int)] 38)).lt (fun e => by have := HOL.out zb e.symm; omega)))
        have hm5 : IsMoves w5 B L.length L := HD5.out.m.elim fun _ k => k.moves
        clear hown5 hg5 hb5 HD4 HZ4 HOL hzge hm5 hsw hzb
        clear x0 x1 x2 lx ls
        rw [← HFS2.out] at HD5
        go_wp2_with fail
        obtain ⟨wo, rfl⟩ : ∃ wo : World, wo = wr := ⟨_, rfl⟩
        go_loopw [53] (fun iv wr => ∃ (i : Nat), i ≤ L.length ∧ iv = .int .i64 i ∧ Hid (DS sb xb w G N A M C B D L (seenI G N L p i) (.slice A' ((firstsP G N L p).length + 1) cp') (firstsP G N L (p + 1)) wr) ∧ Hid (wr.rowIs zb 38 2 (ptG u v))) (fun iv _ => L.length - (intOf iv).toNat)
        case atStart => exact ⟨0, by omega, rfl, Lib.hid (HD5.out.congr fun j _ => by unfold seenI; simp), HZ5⟩
        case round =>
          clear HD5 HZ5
          obtain ⟨i, hi, rfl, HD, HZ⟩ := hrel
          by_cases hil : i < L.length
          · have di : decide ((i : Int) < (L.length : Int)) = true := by simpa using hil
            have vi : IntKind.i64.wrap ((i : Int) + 1) = (i : Int) + 1 := IntWalk.i64_in _ (by omega)
            have hmv : IsMoves wr B L.length L := HD.out.m.elim fun _ k => k.moves
            obtain ⟨mb, mo, hB, hb, hc⟩ := hmv.2 (by omega)
            obtain ⟨c0, c1, c2, c3⟩ := hc i hil
            have lmb : LtW mb wr := hb
            have HAP1 := Lib.hid (fun w => HAP.out i (u : Int) (v : Int) w hil (by omega) (by omega))
            have hbd := (HAP.out i (u : Int) (v : Int) wr hil (by omega) (by omega)).2
            have HSI1 := Lib.hid (HSI.out i hil)
            obtain ⟨m, hm⟩ : ∃ m, L.getD i idm = m := ⟨_, rfl⟩
            rw [hm] at c0 c1 c2 c3 HAP1 hbd HSI1
            obtain ⟨t', f', x', y'⟩ := m
            simp only at c0 c1 c2 c3 HAP1 hbd
            have hpa : place N (To G ⟨t', f', (x', y')⟩ ((u : Int), (v : Int))) = rankP N (act G N ⟨t', f', (x', y')⟩ ((u : Int), (v : Int))) := rfl
            rw [← hpa] at HSI1
            have hqM := HPB.out (To G ⟨t', f', (x', y')⟩ ((u : Int), (v : Int)))
            clear hpa hm hc hb hmv
            generalize To G ⟨t', f', (x', y')⟩ ((u : Int), (v : Int)) = pp at *
            obtain ⟨px, py⟩ := pp
            have HP1 := Lib.hid (fun w => HPL.out A C px py w (by simp only at hbd; omega) (by simp only at hbd; omega))
            generalize place N (px, py) = q at *
            have hBB := Lib.hid hB
            subst hB
            have z0 : wr.cell? ⟨zb, 0, none⟩ = some (.int .i64 (u : Int)) := HZ.out.cell (i := 0) (by omega)
            have z1 : wr.cell? ⟨zb, 1, none⟩ = some (.int .i64 (v : Int)) := HZ.out.cell (i := 1) (by omega)
            have lz : LtW zb wr := HZ.out.lt
            have x0 : (wr).cell? ⟨xb, 0, none⟩ = some (.int .i64 (G : Int)) := (HD.out).x.cell (i := 0) (by omega)
            have x1 : (wr).cell? ⟨xb, 1, none⟩ = some (.int .i64 (N : Int)) := (HD.out).x.cell (i := 1) (by omega)
            have x2 : (wr).cell? ⟨xb, 2, none⟩ = some (.slice A M C) := (HD.out).x.cell (i := 2) (by omega)
            have lx : LtW xb wr := (HD.out).x.lt
            have ls : LtW sb wr := (HD.out).s.lt
            clear HAP HPL HPB HSE hbd
            go_wp2_with fail
            refine (HAP1.out _).1.mono ?_
            rintro r w6 ⟨rfl, hb6⟩
            have hb6' : Below wr.heap.size wr w6 := ((Below.refl _ _).alloc (Nat.le_refl _) _).trans (hb6.mono (by simp))
            have HD6 := Lib.hid (HD.out.grow hb6')
            have HZ6 := Lib.hid (rowBelow HZ.out hb6' HZ.out.lt)
            clear HD HZ hb6 hb6' c0 c1 c2 c3 lmb z0 z1 lz HAP1
            clear x0 x1 x2 lx ls
            have x0 : (w6).cell? ⟨xb, 0, none⟩ = some (.int .i64 (G : Int)) := (HD6.out).x.cell (i := 0) (by omega)
            have x1 : (w6).cell? ⟨xb, 1, none⟩ = some (.int .i64 (N : Int)) := (HD6.out).x.cell (i := 1) (by omega)
            have x2 : (w6).cell? ⟨xb, 2, none⟩ = some (.slice A M C) := (HD6.out).x.cell (i := 2) (by omega)
            have lx : LtW xb w6 := (HD6.out).x.lt
            have ls : LtW sb w6 := (HD6.out).s.lt
            go_wp2_with fail
            refine (HP1.out _).mono ?_
            rintro r w7 ⟨rfl, hb7⟩
            have hb7' : Below w6.heap.size w6 w7 := ((Below.refl _ _).alloc (Nat.le_refl _) _).trans (hb7.mono (by simp))
            have HD7 := Lib.hid (HD6.out.grow hb7')
            have HZ7 := Lib.hid (rowBelow HZ6.out hb7' HZ6.out.lt)
            clear HD6 HZ6 hb7 hb7' HP1
            clear x0 x1 x2 lx ls
            have cq : w7.cell? ⟨sb, q, none⟩ = some (.bool (seenI G N L p i q)) := HD7.out.s.cell (i := q) hqM
            have fq := HD7.out.s.frozen q
            have lq : LtW sb w7 := HD7.out.s.lt
            go_wp2
            have HD8 := Lib.hid (HD7.out.see (f' := seenI G N L p (i + 1)) q (fun j _ => HSI1.out j))
            have HZ8 := Lib.hid (HZ7.out.setOther (a := ⟨sb, q, none⟩) (row_ne HZ7.out HD7.out.s (by decide)) (.bool true))
            clear HD7 HZ7 cq fq lq
            go_roundw
            case rel => exact ⟨i + 1, by omega, by go_num, HD8, HZ8⟩
            case measure => simp [intOf]; omega
          · obtain rfl : i = L.length := by omega
            have di : decide ((L.length : Int) < (L.length : Int)) = false := by simp
            have HD9 : Hid (DS sb xb w G N A M C B D L (seenB G N L (p + 1)) (.slice A' ((firstsP G N L p).length + 1) cp') (firstsP G N L (p + 1)) wr) := Lib.hid (HD.out.congr fun j _ => HSA2.out j)
            clear HD HZ
            go_wp2
            go_roundw
            case rel => exact ⟨p + 1, by omega, by go_num, HD9⟩
            case measure => simp [intOf]; omega
    · obtain rfl : p = M := by omega
      have dp : decide ((p : Int) < (p : Int)) = false := by simp
      rw [HRES.out] at HD
      obtain ⟨A', C', rfl⟩ := own_form HD.out.o
      have HO : Hid (OwnP wr w.heap.size A' RES.length C' RES) := Lib.hid ⟨rfl, HD.out.o⟩
      have HBL := Lib.hid HD.out.bel
      clear HD HSE HAP HPL HPB
      go_wp2
      go_ret2
      exact ⟨⟨A', C', rfl, HO.out⟩, HBL.out⟩
end Go.Proofs.Ytdaacjaibfcacaa
