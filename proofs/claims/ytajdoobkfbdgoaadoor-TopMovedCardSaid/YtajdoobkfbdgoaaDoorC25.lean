/- Lemmas on which the law of this seat rests; each states its own conditions. -/
import Derived.Test.YtajdoobkfbdgoaaDoorC11
import Derived.Test.YtajdoobkfbdgoaaDoorC20
import Derived.Test.YtajdoobkfbdgoaaDoorC24
set_option linter.unusedVariables false
set_option linter.unusedSimpArgs false
namespace Go.Proofs.YtajdoobkfbdgoaaDoor
section
open Go.RowKit
open Z (torN place pnt Mv To lin okT nrm keepB colP idm md redM firstB rankP act)
def ptK (p : Z.Pt) : List Value := [.int .i64 p.1, .int .i64 p.2]
def ptsK (L : List Z.Pt) : List Value := L.flatMap ptK
theorem ptsK_app (L : List Z.Pt) (p : Z.Pt) : ptsK (L ++ [p]) = ptsK L ++ ptK p := by unfold ptsK; rw [List.flatMap_append]; simp
def OwnP (w : World) (base : Nat) (A : Option Addr) (n C : Nat) (L : List Z.Pt) : Prop := L.length = n ∧ w.ownsRow base 52 2 (.slice A n C) n (ptsK L)
theorem okPt : ElemOk 71 52 2 16 (.agg #[.int .i64 0, .int .i64 0]) := ⟨Tryd.underlying71, by kernel_rfl, rfl, by omega⟩
def PtPost (L : List Z.Pt) (e : Int) (w : World) (r : Ending) (w' : World) : Prop := (∃ A C, r = .returned (.tuple #[.slice A L.length C, .int .i64 (e)]) ∧ OwnP w' w.heap.size A L.length C L) ∧ Below w.heap.size w w'
theorem row_notOwn {w : World} {b t n base e size k : Nat} {f : Nat → Value} {v : Value} {xs : List Value} (hr : w.rowIs b t n f) (h : w.ownsRow base e size v k xs) (hne : t ≠ e) : some b ≠ v.ownBlock := by
 rcases h.2 with ⟨rfl, _⟩ | ⟨g, cap, cur, rfl, _, hg, _⟩
 ·simp [Value.ownBlock]
 ·intro e'
  have e2 : b = g := by simpa [Value.ownBlock] using e'
  subst e2
  obtain ⟨cs, hb, _⟩ := hr
  rw [hb] at hg
  injection hg with hg
  injection hg with _ h5
  exact hne h5
theorem row_ne {w : World} {b b' t t' n n' : Nat} {f f' : Nat → Value} (h : w.rowIs b t n f) (h' : w.rowIs b' t' n' f') (hne : t ≠ t') : b ≠ b' := by
 rintro rfl
 obtain ⟨c, h1, _⟩ := h
 obtain ⟨c', h2, _⟩ := h'
 rw [h1] at h2
 injection h2 with h2
 injection h2 with _ h3
 exact hne h3
structure DS (sb xb : Nat) (W0 : World) (g n : Int) (A : Option Addr) (M C : Nat) (B : Option Addr) (D : Nat) (ML : List Mv) (f : Nat → Bool) (ov : Value) (OL : List Z.Pt) (w : World) : Prop where
 s : w.rowIs sb 4 M (fun j => .bool (f j))
 x : w.rowIs xb 93 3 (clF g n (.slice A M C))
 m : ∃ b, OwnM w b B ML.length D ML
 o : w.ownsRow W0.heap.size 52 2 ov OL.length (ptsK OL)
 lo : W0.heap.size ≤ sb
 bel : Below W0.heap.size W0 w
section
variable {sb xb M C D : Nat} {W0 w w' : World} {g n : Int} {A B : Option Addr} {ML : List Mv} {f f' : Nat → Bool} {ov : Value} {OL : List Z.Pt}
theorem DS.grow (h : DS sb xb W0 g n A M C B D ML f ov OL w) (hb : Below w.heap.size w w') : DS sb xb W0 g n A M C B D ML f ov OL w' :=
 ⟨rowBelow h.s hb h.s.lt, rowBelow h.x hb h.x.lt, h.m.imp fun _ k => k.below hb, ownBelow h.o hb, h.lo, h.bel.trans (hb.mono h.bel.size)⟩
theorem DS.alloc (h : DS sb xb W0 g n A M C B D ML f ov OL w) (o : Obj) : DS sb xb W0 g n A M C B D ML f ov OL (w.alloc o) := h.grow ((Below.refl _ _).alloc (Nat.le_refl _) _)
theorem DS.see (h : DS sb xb W0 g n A M C B D ML f ov OL w) (i : Nat) (hf : ∀ j, j < M → f' j = (f j || i == j)) : DS sb xb W0 g n A M C B D ML f' ov OL (w.setCell ⟨sb, i, none⟩ (.bool true)) :=
 ⟨(h.s.set i _).congr fun j hj => by
  show (if j = i then Value.bool true else .bool (f j)) = .bool (f' j)
  rw [hf j hj]
  by_cases e : j = i
  ·subst e; simp
  ·rw [if_neg e]; simp [Ne.symm e], h.x.setOther (a := ⟨sb, i, none⟩) (row_ne h.x h.s (by decide)) _, h.m.imp fun _ k => k.setRow h.s (by decide), own_setRow h.o h.s (by decide), h.lo, h.bel.setCell (p := ⟨sb, i, none⟩) h.lo _⟩
theorem DS.congr (h : DS sb xb W0 g n A M C B D ML f ov OL w) (hf : ∀ j, j < M → f' j = f j) : DS sb xb W0 g n A M C B D ML f' ov OL w :=
 ⟨h.s.congr fun j hj => by show Value.bool (f j) = .bool (f' j); rw [hf j hj], h.x, h.m, h.o, h.lo, h.bel⟩
theorem DS.app {p : Z.Pt} {A' : Option Addr} {c' : Nat} (h : DS sb xb W0 g n A M C B D ML f ov OL w) (hown : w'.ownsRow W0.heap.size 52 2 (.slice A' (OL.length + 1) c') (OL.length + 1) (ptsK OL ++ (#[Value.int .i64 p.1, .int .i64 p.2]).toList)) (hg : (w.alloc (.cells #[.int .i64 p.1, .int .i64 p.2] 52)).grownBy w' ov.ownBlock) (hb : Below W0.heap.size w w') : DS sb xb W0 g n A M C B D ML f (.slice A' (OL.length + 1) c') (OL ++ [p]) w' := by
 have h2 := h.alloc (.cells #[.int .i64 p.1, .int .i64 p.2] 52)
 refine ⟨h2.s.of_block (hg.block sb h2.s.lt (row_notOwn h2.s h2.o (by decide))), h2.x.of_block (hg.block xb h2.x.lt (row_notOwn h2.x h2.o (by decide))), h2.m.imp fun _ k => k.grownT h2.o (by decide) hg, ?_, h.lo, h.bel.trans hb⟩
 rw [ptsK_app, List.length_append]
 exact hown
end
def seenB (g : Int) (n : Nat) (L : List Mv) (p j : Nat) : Bool := (List.range p).any fun q => firstB g n L (pnt n q) && L.any fun m => rankP n (act g n m (pnt n q)) == j
def seenI (g : Int) (n : Nat) (L : List Mv) (p i j : Nat) : Bool := seenB g n L p j || (L.take i).any fun m => rankP n (act g n m (pnt n p)) == j
def firstsP (g : Int) (n : Nat) (L : List Mv) (p : Nat) : List Z.Pt := ((List.range p).filter fun k => firstB g n L (pnt n k)).map (pnt n)
theorem seenB_succ (g : Int) (n : Nat) (L : List Mv) (p j : Nat) : seenB g n L (p + 1) j = (seenB g n L p j || (firstB g n L (pnt n p) && L.any fun m => rankP n (act g n m (pnt n p)) == j)) := by
 unfold seenB; rw [List.range_succ, List.any_append]; simp
theorem seenI_all {g : Int} {n : Nat} {L : List Mv} {p : Nat} (h : firstB g n L (pnt n p) = true) (j : Nat) : seenB g n L (p + 1) j = seenI g n L p L.length j := by
 rw [seenB_succ, h, Bool.true_and]; unfold seenI; rw [List.take_length]
theorem seenI_succ {g : Int} {n : Nat} {L : List Mv} {p i : Nat} (hi : i < L.length) (j : Nat) : seenI g n L p (i + 1) j = (seenI g n L p i j || rankP n (act g n (L.getD i idm) (pnt n p)) == j) := by
 unfold seenI
 rw [List.take_add_one, List.getElem?_eq_getElem hi, List.any_append, List.getD_eq_getElem?_getD, List.getElem?_eq_getElem hi]
 simp [Bool.or_assoc]
theorem seenB_iff {g : Int} {n : Nat} {L : List Mv} {p : Nat} {col : Z.Pt → Int} (hg : Z.G g) (hn : 0 < n) (hp : Z.Per n col) (h : Z.Grp g n col L) (hk : p < n * n) : seenB g n L p p = !firstB g n L (pnt n p) := by
 have h1 := Z.seen_first hg hn hp h hk
 unfold seenB
 cases hf : firstB g n L (pnt n p) with
 | false =>
  obtain ⟨q, hq, h2, m, hm, h3⟩ := h1.2 hf
  simp only [Bool.not_false]
  rw [List.any_eq_true]
  exact ⟨q, List.mem_range.2 hq, by rw [h2, Bool.true_and, List.any_eq_true]; exact ⟨m, hm, by simpa using h3⟩⟩
 | true =>
  simp only [Bool.not_true]
  rw [List.any_eq_false]
  intro q hq e
  rw [Bool.and_eq_true, List.any_eq_true] at e
  obtain ⟨e1, m, hm, e2⟩ := e
  have := h1.1 ⟨q, List.mem_range.1 hq, e1, m, hm, by simpa using e2⟩
  rw [hf] at this; cases this
theorem firstsP_succ (g : Int) (n : Nat) (L : List Mv) (p : Nat) : firstsP g n L (p + 1) = if firstB g n L (pnt n p) then firstsP g n L p ++ [pnt n p] else firstsP g n L p := by
 unfold firstsP
 rw [List.range_succ, List.filter_append]
 simp only [List.filter_cons, List.filter_nil]
 split <;> simp
theorem firstsP_len (g : Int) (n : Nat) (L : List Mv) (p : Nat) : (firstsP g n L p).length ≤ p := by
 unfold firstsP
 rw [List.length_map]
 exact Nat.le_trans (List.length_filter_le _ _) (by simp)
set_option maxRecDepth 100000 in
set_option maxHeartbeats 8000000 in
theorem Domain_ok (G W H n N : Nat) (a : Option Addr) (c : Nat) (cs : List Int) (w : World) (hI : IsInts w a n cs) (h : ChOk G W H n cs) (hN : torN W H = N) (h24 : N ≤ 24) (hp : 0 < N) (hml : (Z.movesL W H cs G N).length ≤ 10000) :
  Calls Tryd.prog 21 #[.agg #[.int .i64 (G), .int .i64 (W), .int .i64 (H), .slice a n c]] w (PtPost (firstsP G N (Z.movesL W H cs G N) (N * N)) 0 w) := by
 obtain ⟨M, hM⟩ : ∃ M, N * N = M := ⟨_, rfl⟩
 have hM6 : M ≤ 576 := by rw [← hM]; exact Nat.mul_le_mul h24 h24
 have hd := Z.torN_dvd W H
 rw [hN] at hd
 have hg : (G : Int) = 4 ∨ (G : Int) = 6 := by have := h.g; omega
 have HL := Lib.hid (fun w hI => laid_ok G W H n N M a c cs w hI h hN h24 hM)
 have HA := Lib.hid (fun a c w hI => all_ok G W H N M a c cs w hI h.g hp h24 hM hd.1 hd.2)
 have grp := Z.movesL_grp (cs := cs) (g := (G : Int)) hp hd.1 hd.2
 have HSE := Lib.hid (fun p (hk : p < M) => seenB_iff hg hp (Z.colP_per cs hd.1 hd.2) grp (by rw [hM]; exact hk))
 generalize Z.movesL W H cs G N = L at *
 have HAP := Lib.hid (fun (i : Nat) (x y : Int) w (hi : i < L.length) (hx : 0 ≤ x ∧ x ≤ 24) (hy : 0 ≤ y ∧ y ≤ 24) => (by
  have hm : L.getD i idm ∈ L := by rw [List.getD_eq_getElem?_getD, List.getElem?_eq_getElem hi]; exact List.getElem_mem hi
  have hb := grp.bd hm
  have ho := grp.ok hm
  exact (⟨Apply_small G (L.getD i idm).t (L.getD i idm).f (L.getD i idm).o.1 (L.getD i idm).o.2 x y w hg ho hx hy (by omega) (by omega), To_small hg (L.getD i idm).t (L.getD i idm).f hx hy (ox := (L.getD i idm).o.1) (oy := (L.getD i idm).o.2) (by omega) (by omega)⟩ : _ ∧ _)))
 have HPL := Lib.hid (fun a c x y w h1 h2 => place_ok G N M a c x y w hp h24 h1 h2)
 have HPB : Hid (∀ z, place N z < M) := Lib.hid fun z => by rw [← hM]; exact Z.place_lt hp z
 have hmk := makeRow okBools rfl M (by omega) (by omega)
 have HI := Lib.hid hI
 have HM := Lib.hid hM
 have b1 : ((N : Int) == 0) = false := by rw [beq_eq_false_iff_ne]; omega
 have b2 : (N : Int) ≠ 0 := by omega
 have b3 : ¬ N = 0 := by omega
 unfold PtPost
 rw [hM]
 obtain ⟨RES, hRES⟩ : ∃ R, firstsP G N L M = R := ⟨_, rfl⟩
 rw [hRES]
 have HRES := Lib.hid hRES
 clear hI hN hM hRES h hd hg grp
 go_enter Tryd.func21, Tryd.ntmps21
 go_wp2_with fail
 refine (HL.out _ (HI.out.below blw)).mono ?_
 rintro r w2 ⟨⟨A, C, rfl, hA⟩, hb2⟩
 have HB2 : Hid (Below w.heap.size w w2 ∧ w.heap.size < w2.heap.size) := Lib.hid (by
  have h1 := hb2.size
  rw [World.size_alloc] at h1
  exact ⟨((Below.refl _ _).alloc (Nat.le_refl _) _).trans (hb2.mono (by simp)), by omega⟩)
 have HAI := Lib.hid hA.ints
 clear hA hb2
 go_wp2_with fail
 have hal : Below w2.heap.size w2 ((w2.alloc (.cells #[.int .i64 (G : Int), .int .i64 (N : Int), .slice A M C] 93)).alloc (.cells (madeCells #[.bool false] M) 4)) := ((Below.refl _ _).alloc (Nat.le_refl _) _).alloc (by simp) _
 refine (HA.out A C _ (HAI.out.below hal)).mono ?_
 rintro r w3 ⟨⟨B, D, rfl, hB⟩, hb3⟩
 have hD0 : DS (w2.heap.size + 1) w2.heap.size w G N A M C B D L (fun _ => false) (.slice none 0 0) [] w3 := by
  have h1 := World.rowIs_made (w2.alloc (.cells #[.int .i64 (G : Int), .int .i64 (N : Int), .slice A M C] 93)) (.bool false) M 4
  have h2 := (clF_alloc w2 G N A M C).alloc (.cells (madeCells #[.bool false] M) 4)
  rw [World.size_alloc] at h1
  exact ⟨rowBelow h1 hb3 h1.lt, rowBelow h2 hb3 h2.lt, ⟨_, hB⟩, World.ownsRow_nil _ _ _ _, by have := HB2.out.2; omega, HB2.out.1.trans ((hal.trans (hb3.mono hal.size)).mono (Nat.le_of_lt HB2.out.2))⟩
 obtain ⟨xb, hxb⟩ : ∃ xb, w2.heap.size = xb := ⟨_, rfl⟩
 obtain ⟨sb, hsb⟩ : ∃ sb, xb + 1 = sb := ⟨_, rfl⟩
 rw [hxb, hsb] at hD0 ⊢
 have HD0 := Lib.hid hD0
 clear hD0 hB hb3 hal HB2 HAI HL HA hmk hxb hsb
 go_wp2_with fail
 go_loopw [6, 31] (fun ov pv wr => ∃ (p : Nat), p ≤ M ∧ pv = .int .i64 p ∧ Hid (DS sb xb w G N A M C B D L (seenB G N L p) ov (firstsP G N L p) wr)) (fun _ pv _ => M - (intOf pv).toNat)
 case atStart => exact ⟨0, by omega, rfl, HD0⟩
 case round =>
  clear HD0
  obtain ⟨p, hpM, rfl, HD⟩ := hrel
  by_cases hpl : p < M
  ·have dp : decide ((p : Int) < (M : Int)) = true := by simpa using hpl
   have vp : IntKind.i64.wrap ((p : Int) + 1) = (p : Int) + 1 := IntWalk.i64_in _ (by omega)
   have cp : wr.cell? ⟨sb, p, none⟩ = some (.bool (seenB G N L p p)) := HD.out.s.cell (i := p) hpl
   rw [HSE.out p hpl] at cp
   have HFS := Lib.hid (firstsP_succ G N L p)
   have HSS := Lib.hid (seenB_succ G N L p)
   have HSA := Lib.hid (fun h j => seenI_all (g := (G : Int)) (n := N) (L := L) (p := p) h j)
   have hfl := firstsP_len G N L p
   cases hfb : firstB G N L (pnt N p) with
   | false =>
    rw [hfb] at cp HFS HSS
    have HD2 : Hid (DS sb xb w G N A M C B D L (seenB G N L (p + 1)) _ (firstsP G N L (p + 1)) wr) := Lib.hid (by
     rw [HFS.out, if_neg (by simp)]
     exact HD.out.congr fun j _ => by rw [HSS.out j]; simp)
    have x0 : (wr).cell? ⟨xb, 0, none⟩ = some (.int .i64 (G : Int)) := (HD.out).x.cell (i := 0) (by omega)
    have x1 : (wr).cell? ⟨xb, 1, none⟩ = some (.int .i64 (N : Int)) := (HD.out).x.cell (i := 1) (by omega)
    have x2 : (wr).cell? ⟨xb, 2, none⟩ = some (.slice A M C) := (HD.out).x.cell (i := 2) (by omega)
    have lx : LtW xb wr := (HD.out).x.lt
    have ls : LtW sb wr := (HD.out).s.lt
    simp only [Bool.not_false] at cp
    go_wp2
    clear x0 x1 x2 lx ls
    go_roundw
    case rel => exact ⟨p + 1, by omega, by go_num, HD2⟩
    case measure => simp [intOf]; omega
   | true =>
    rw [hfb] at cp HFS
    simp only [Bool.not_true] at cp
    have HSA2 := Lib.hid (HSA.out hfb)
    obtain ⟨u, hu⟩ : ∃ u, p % N = u := ⟨_, rfl⟩
    obtain ⟨v, hv⟩ : ∃ v, p / N = v := ⟨_, rfl⟩
    have hu1 : u < N := by rw [← hu]; exact Nat.mod_lt _ hp
    have hv1 : v < N := by rw [← hv]; exact Nat.div_lt_of_lt_mul (by rw [HM.out]; exact hpl)
    have hpn : pnt N p = ((u : Int), (v : Int)) := by unfold pnt; rw [hu, hv]
    have t1 : (p : Int).tmod (N : Int) = (u : Int) := by rw [← hu]; rfl
    have t2 : (p : Int).tdiv (N : Int) = (v : Int) := by rw [← hv]; rfl
    have v1 : IntKind.i64.wrap (u : Int) = (u : Int) := IntWalk.i64_in _ (by omega)
    have v2 : IntKind.i64.wrap (v : Int) = (v : Int) := IntWalk.i64_in _ (by omega)
    have HSI := Lib.hid (fun i (hi : i < L.length) j => seenI_succ (g := (G : Int)) (n := N) (p := p) hi j)
    rw [hpn] at HFS HSI
    have HFS2 : Hid (firstsP G N L (p + 1) = firstsP G N L p ++ [((u : Int), (v : Int))]) := Lib.hid (by rw [HFS.out, if_pos rfl])
    clear hu hv hpn hfb HFS HSS HSA
    have x0 : (wr).cell? ⟨xb, 0, none⟩ = some (.int .i64 (G : Int)) := (HD.out).x.cell (i := 0) (by omega)
    have x1 : (wr).cell? ⟨xb, 1, none⟩ = some (.int .i64 (N : Int)) := (HD.out).x.cell (i := 1) (by omega)
    have x2 : (wr).cell? ⟨xb, 2, none⟩ = some (.slice A M C) := (HD.out).x.cell (i := 2) (by omega)
    have lx : LtW xb wr := (HD.out).x.lt
    have ls : LtW sb wr := (HD.out).s.lt
    go_wp2_with fail
    (refine wp_region_ext_alloc 9 52 (some 10) _ (by kernel_rfl) (by kernel_rfl) rfl allocPt ?_; simp only [List.take_succ_cons, List.take_zero, List.drop_succ_cons, List.drop_zero]; (repeat (first | ((with_reducible refine wpV_step (fun K hK => ?_)); go_simp; first | (refine hK _ ?_; clear hK K) | (apply Exists.intro; refine ⟨fun _ _ => ?_, hK _ ?_⟩; fail; clear hK K)))); refine wpV_nil ?_; intro E d E' d'; go_simp)
    have hbL := built_below wr E d (.cells #[.int .i64 (u : Int), .int .i64 (v : Int)] 52) E' d'
    have hz := ptG_alloc (extW wr E d) u v
    have hz2 := rowBelow hz (bExtW (Below.refl _ _) (Nat.le_refl _) : Below _ _ (extW ((extW wr E d).alloc (.cells #[.int .i64 (u : Int), .int .i64 (v : Int)] 52)) E' d')) hz.lt
    rw [size_extW] at hz2
    have HD4 := Lib.hid (HD.out.grow hbL)
    have HOL := Lib.hid (fun k e => (HD.out.o.lt k e).2)
    have hzge : wr.heap.size ≤ wr.heap.size + E.size := by omega
    have HZ4 := Lib.hid hz2
    have hsw : w.heap.size ≤ (extW ((extW wr E d).alloc (.cells #[.int .i64 (u : Int), .int .i64 (v : Int)] 52)) E' d').heap.size := HD4.out.bel.size
    clear cp hbL hz HD hz2
    go_wp2_with (at_builtin; refine wpAppM (W := (extW ((extW wr E d).alloc (.cells #[.int .i64 (u : Int), .int .i64 (v : Int)] 52)) E' d')) okPt rfl (.tmp 47) (.tmp 49) rfl w.heap.size _ _ _ #[.int .i64 (u : Int), .int .i64 (v : Int)] rfl HD4.out.o (by simp [go_sem]) rfl ?_ (by omega) (by omega) hsw ?_)
    ·simp [Value.oneCell']
    intro v' w5 hown5 hg5 hb5
    obtain ⟨A', cp', rfl⟩ := own_form hown5
    have HD5 := Lib.hid (HD4.out.app (p := ((u : Int), (v : Int))) hown5 hg5 hb5)
    obtain ⟨zb, hzb⟩ : ∃ zb, wr.heap.size + E.size = zb := ⟨_, rfl⟩
    rw [hzb] at HZ4 hzge ⊢
    have HZ5 := Lib.hid ((HZ4.out.alloc (.cells #[.int .i64 (u : Int), .int .i64 (v : Int)] 52)).of_block (hg5.block zb (HZ4.out.alloc (.cells #[.int .i64 (u : Int), .int .i64 (v : Int)] 52)).lt (fun e => by have := HOL.out zb e.symm; omega)))
    have hm5 : IsMoves w5 B L.length L := HD5.out.m.elim fun _ k => k.moves
    clear hown5 hg5 hb5 HD4 HZ4 HOL hzge hm5 hsw hzb
    clear x0 x1 x2 lx ls
    rw [← HFS2.out] at HD5
    go_wp2_with fail
    obtain ⟨wo, rfl⟩ : ∃ wo : World, wo = wr := ⟨_, rfl⟩
    go_loopw [53] (fun iv wr => ∃ (i : Nat), i ≤ L.length ∧ iv = .int .i64 i ∧ Hid (DS sb xb w G N A M C B D L (seenI G N L p i) (.slice A' ((firstsP G N L p).length + 1) cp') (firstsP G N L (p + 1)) wr) ∧ Hid (wr.rowIs zb 52 2 (ptG u v))) (fun iv _ => L.length - (intOf iv).toNat)
    case atStart => exact ⟨0, by omega, rfl, Lib.hid (HD5.out.congr fun j _ => by unfold seenI; simp), HZ5⟩
    case round =>
     clear HD5 HZ5
     obtain ⟨i, hi, rfl, HD, HZ⟩ := hrel
     by_cases hil : i < L.length
     ·have di : decide ((i : Int) < (L.length : Int)) = true := by simpa using hil
      have vi : IntKind.i64.wrap ((i : Int) + 1) = (i : Int) + 1 := IntWalk.i64_in _ (by omega)
      have hmv : IsMoves wr B L.length L := HD.out.m.elim fun _ k => k.moves
      obtain ⟨mb, mo, hB, hb, hc⟩ := hmv.2 (by omega)
      obtain ⟨c0, c1, c2, c3⟩ := hc i hil
      have lmb : LtW mb wr := hb
      have HAP1 := Lib.hid (fun w => HAP.out i (u : Int) (v : Int) w hil (by omega) (by omega))
      have hbd := (HAP.out i (u : Int) (v : Int) wr hil (by omega) (by omega)).2
      have HSI1 := Lib.hid (HSI.out i hil)
      obtain ⟨m, hm⟩ : ∃ m, L.getD i idm = m := ⟨_, rfl⟩
      rw [hm] at c0 c1 c2 c3 HAP1 hbd HSI1
      obtain ⟨t', f', x', y'⟩ := m
      simp only at c0 c1 c2 c3 HAP1 hbd
      have hpa : place N (To G ⟨t', f', (x', y')⟩ ((u : Int), (v : Int))) = rankP N (act G N ⟨t', f', (x', y')⟩ ((u : Int), (v : Int))) := rfl
      rw [← hpa] at HSI1
      have hqM := HPB.out (To G ⟨t', f', (x', y')⟩ ((u : Int), (v : Int)))
      clear hpa hm hc hb hmv
      generalize To G ⟨t', f', (x', y')⟩ ((u : Int), (v : Int)) = pp at *
      obtain ⟨px, py⟩ := pp
      have HP1 := Lib.hid (fun w => HPL.out A C px py w (by simp only at hbd; omega) (by simp only at hbd; omega))
      generalize place N (px, py) = q at *
      have hBB := Lib.hid hB
      subst hB
      have z0 : wr.cell? ⟨zb, 0, none⟩ = some (.int .i64 (u : Int)) := HZ.out.cell (i := 0) (by omega)
      have z1 : wr.cell? ⟨zb, 1, none⟩ = some (.int .i64 (v : Int)) := HZ.out.cell (i := 1) (by omega)
      have lz : LtW zb wr := HZ.out.lt
      have x0 : (wr).cell? ⟨xb, 0, none⟩ = some (.int .i64 (G : Int)) := (HD.out).x.cell (i := 0) (by omega)
      have x1 : (wr).cell? ⟨xb, 1, none⟩ = some (.int .i64 (N : Int)) := (HD.out).x.cell (i := 1) (by omega)
      have x2 : (wr).cell? ⟨xb, 2, none⟩ = some (.slice A M C) := (HD.out).x.cell (i := 2) (by omega)
      have lx : LtW xb wr := (HD.out).x.lt
      have ls : LtW sb wr := (HD.out).s.lt
      clear HAP HPL HPB HSE hbd
      go_wp2_with fail
      refine (HAP1.out _).1.mono ?_
      rintro r w6 ⟨rfl, hb6⟩
      have hb6' : Below wr.heap.size wr w6 := ((Below.refl _ _).alloc (Nat.le_refl _) _).trans (hb6.mono (by simp))
      have HD6 := Lib.hid (HD.out.grow hb6')
      have HZ6 := Lib.hid (rowBelow HZ.out hb6' HZ.out.lt)
      clear HD HZ hb6 hb6' c0 c1 c2 c3 lmb z0 z1 lz HAP1
      clear x0 x1 x2 lx ls
      have x0 : (w6).cell? ⟨xb, 0, none⟩ = some (.int .i64 (G : Int)) := (HD6.out).x.cell (i := 0) (by omega)
      have x1 : (w6).cell? ⟨xb, 1, none⟩ = some (.int .i64 (N : Int)) := (HD6.out).x.cell (i := 1) (by omega)
      have x2 : (w6).cell? ⟨xb, 2, none⟩ = some (.slice A M C) := (HD6.out).x.cell (i := 2) (by omega)
      have lx : LtW xb w6 := (HD6.out).x.lt
      have ls : LtW sb w6 := (HD6.out).s.lt
      go_wp2_with fail
      refine (HP1.out _).mono ?_
      rintro r w7 ⟨rfl, hb7⟩
      have hb7' : Below w6.heap.size w6 w7 := ((Below.refl _ _).alloc (Nat.le_refl _) _).trans (hb7.mono (by simp))
      have HD7 := Lib.hid (HD6.out.grow hb7')
      have HZ7 := Lib.hid (rowBelow HZ6.out hb7' HZ6.out.lt)
      clear HD6 HZ6 hb7 hb7' HP1
      clear x0 x1 x2 lx ls
      have cq : w7.cell? ⟨sb, q, none⟩ = some (.bool (seenI G N L p i q)) := HD7.out.s.cell (i := q) hqM
      have fq := HD7.out.s.frozen q
      have lq : LtW sb w7 := HD7.out.s.lt
      go_wp2
      have HD8 := Lib.hid (HD7.out.see (f' := seenI G N L p (i + 1)) q (fun j _ => HSI1.out j))
      have HZ8 := Lib.hid (HZ7.out.setOther (a := ⟨sb, q, none⟩) (row_ne HZ7.out HD7.out.s (by decide)) (.bool true))
      clear HD7 HZ7 cq fq lq
      go_roundw
      case rel => exact ⟨i + 1, by omega, by go_num, HD8, HZ8⟩
      case measure => simp [intOf]; omega
     ·obtain rfl : i = L.length := by omega
      have di : decide ((L.length : Int) < (L.length : Int)) = false := by simp
      have HD9 : Hid (DS sb xb w G N A M C B D L (seenB G N L (p + 1)) (.slice A' ((firstsP G N L p).length + 1) cp') (firstsP G N L (p + 1)) wr) := Lib.hid (HD.out.congr fun j _ => HSA2.out j)
      clear HD HZ
      go_wp2
      go_roundw
      case rel => exact ⟨p + 1, by omega, by go_num, HD9⟩
      case measure => simp [intOf]; omega
  ·obtain rfl : p = M := by omega
   have dp : decide ((p : Int) < (p : Int)) = false := by simp
   rw [HRES.out] at HD
   obtain ⟨A', C', rfl⟩ := own_form HD.out.o
   have HO : Hid (OwnP wr w.heap.size A' RES.length C' RES) := Lib.hid ⟨rfl, HD.out.o⟩
   have HBL := Lib.hid HD.out.bel
   clear HD HSE HAP HPL HPB
   go_wp2
   go_ret2
   exact ⟨⟨A', C', rfl, HO.out⟩, HBL.out⟩
end
section
open Go.RowKit
open Cl Lo
open By (readS RowsOk rowsF rowF hasAt hdR rowL)
structure Hi (B : Nat) (w w' : World) : Prop where
 size : w.heap.size ≤ w'.heap.size
 blk : ∀ k, B ≤ k → k < w.heap.size → w'.heap[k]? = w.heap[k]?
theorem Hi.refl (B : Nat) (w : World) : Hi B w w := ⟨Nat.le_refl _, fun _ _ _ => rfl⟩
theorem Hi.set {B : Nat} {w w' : World} (h : Hi B w w') {ob : Nat} (hob : ob < B) (i : Nat) (v : Value) : Hi B w (w'.setCell ⟨ob, i, none⟩ v) :=
 ⟨by rw [World.size_setCell]; exact h.size, fun k h1 h2 => (Below.heap_setCell _ _ _ k (fun e => by have e2 : k = ob := e; omega)).trans (h.blk k h1 h2)⟩
theorem LV.hi {B : Nat} {w w' : World} {A : Option Addr} {n : Nat} {L : List Int} (h : LV B w A n L) (hh : Hi B w w') : IsInts w' A n L := by
 refine ⟨h.ints.1, fun hn => ?_⟩
 obtain ⟨b, o, h1, h2, h3⟩ := h.ints.2 hn
 have h4 := h.off b o h1
 exact ⟨b, o, h1, Nat.lt_of_lt_of_le h2 hh.size, fun j hj => (World.cell?_of_block (hh.blk b h4 h2)).trans (h3 j hj)⟩
theorem OV.hi {B : Nat} {w w' : World} {A : Option Addr} {n c : Nat} {L : List Bool} (h : OV B w A n c L) (hh : Hi B w w') : OkT w' A n c L := by
 refine ⟨⟨h.okt.bits.1, fun hn => ?_⟩, h.okt.cap, h.okt.lim⟩
 obtain ⟨b, o, h1, h2, h3⟩ := h.okt.bits.2 hn
 have h4 := h.off b o h1
 exact ⟨b, o, h1, Nat.lt_of_lt_of_le h2 hh.size, fun j hj => (World.cell?_of_block (hh.blk b h4 h2)).trans (h3 j hj)⟩
def mZ : Nat → Value := mF (.string ⟨#[]⟩) (.int .i64 (0)) (.slice none 0 0) (.int .i64 (0)) (.int .i64 (0)) (.slice none 0 0) (.slice none 0 0) (.bool false) (.slice none 0 0) (.int .i64 (0)) (.int .i64 (0)) (.string ⟨#[]⟩)
def fZ : Nat → Value := fun i => if i = 0 then .int .i64 0 else .int .i64 0
def chM (G W H : Int) (v : Value) : Nat → Value := fun i => if i = 0 then .int .i64 G else if i = 1 then .int .i64 W else if i = 2 then .int .i64 H else v
theorem mZ_alloc (w : World) : (w.alloc (.cells #[.string ⟨#[]⟩, .int .i64 0, .slice none 0 0, .int .i64 0, .int .i64 0, .slice none 0 0, .slice none 0 0, .bool false, .slice none 0 0, .int .i64 0, .int .i64 0, .string ⟨#[]⟩] 37)).rowIs w.heap.size 37 12 mZ := by
 refine World.rowIs_alloc w #[.string ⟨#[]⟩, .int .i64 0, .slice none 0 0, .int .i64 0, .int .i64 0, .slice none 0 0, .slice none 0 0, .bool false, .slice none 0 0, .int .i64 0, .int .i64 0, .string ⟨#[]⟩] 37 mZ ?_
 intro j hj
 have hj' : j < 12 := hj
 have h12 : j = 0 ∨ j = 1 ∨ j = 2 ∨ j = 3 ∨ j = 4 ∨ j = 5 ∨ j = 6 ∨ j = 7 ∨ j = 8 ∨ j = 9 ∨ j = 10 ∨ j = 11 := by omega
 rcases h12 with rfl | rfl | rfl | rfl | rfl | rfl | rfl | rfl | rfl | rfl | rfl | rfl <;> rfl
theorem fZ_alloc (w : World) : (w.alloc (.cells #[.int .i64 0, .int .i64 0] 28)).rowIs w.heap.size 28 2 fZ := by
 refine World.rowIs_alloc w #[.int .i64 0, .int .i64 0] 28 fZ ?_
 intro j hj
 have hj' : j < 2 := hj
 have h2 : j = 0 ∨ j = 1 := by omega
 rcases h2 with rfl | rfl <;> rfl
theorem chM_alloc (w : World) (G W H : Int) (a : Option Addr) (n c : Nat) : (w.alloc (.cells #[.int .i64 G, .int .i64 W, .int .i64 H, .slice a n c] 25)).rowIs w.heap.size 25 4 (chM G W H (.slice a n c)) := by
 refine World.rowIs_alloc w #[.int .i64 G, .int .i64 W, .int .i64 H, .slice a n c] 25 (chM G W H (.slice a n c)) ?_
 intro j hj
 have hj' : j < 4 := hj
 have h4 : j = 0 ∨ j = 1 ∨ j = 2 ∨ j = 3 := by omega
 rcases h4 with rfl | rfl | rfl | rfl <;> rfl
structure HMk (ob rb fb cb : Nat) (f : Nat → Value) (G W H : Int) (a : Option Addr) (n c : Nat) (cs : List Int) (w0 w : World) : Prop where
 row : w.rowIs ob 37 12 f
 res : w.rowIs rb 37 12 mZ
 flt : w.rowIs fb 28 2 fZ
 cht : w.rowIs cb 25 4 (chM G W H (.slice a n c))
 ints : IsInts w a n cs
 n1 : rb ≠ ob
 n2 : fb ≠ ob
 n3 : cb ≠ ob
 off : ∀ b o, a = some ⟨b, o, none⟩ → b ≠ ob
 bel : Below w0.heap.size w0 w
 le : w0.heap.size ≤ ob
section
variable {ob rb fb cb : Nat} {f : Nat → Value} {G W H : Int} {a : Option Addr} {n c : Nat} {cs : List Int} {w0 w w' : World}
theorem HMk.call (h : HMk ob rb fb cb f G W H a n c cs w0 w) (hb : Below w.heap.size w w') : HMk ob rb fb cb f G W H a n c cs w0 w' :=
 ⟨rowBelow h.row hb h.row.lt, rowBelow h.res hb h.res.lt, rowBelow h.flt hb h.flt.lt, rowBelow h.cht hb h.cht.lt, h.ints.below hb, h.n1, h.n2, h.n3, h.off, h.bel.trans (hb.mono h.bel.size), h.le⟩
theorem HMk.set (h : HMk ob rb fb cb f G W H a n c cs w0 w) (i : Nat) (v : Value) : HMk ob rb fb cb (fun j => if j = i then v else f j) G W H a n c cs w0 (w.setCell ⟨ob, i, none⟩ v) :=
 ⟨h.row.set i v, h.res.of_block (Below.heap_setCell _ _ _ rb (fun e => h.n1 e)), h.flt.of_block (Below.heap_setCell _ _ _ fb (fun e => h.n2 e)), h.cht.of_block (Below.heap_setCell _ _ _ cb (fun e => h.n3 e)),
  h.ints.setOther (p := ⟨ob, i, none⟩) (fun b o e => h.off b o e) v, h.n1, h.n2, h.n3, h.off, h.bel.setCell h.le _, h.le⟩
theorem HMk.congr (h : HMk ob rb fb cb f G W H a n c cs w0 w) {f' : Nat → Value} (hf : ∀ j, j < 12 → f j = f' j) : HMk ob rb fb cb f' G W H a n c cs w0 w :=
 ⟨h.row.congr hf, h.res, h.flt, h.cht, h.ints, h.n1, h.n2, h.n3, h.off, h.bel, h.le⟩
end
def MkU (k : ByteArray) (p : Int) (n1 n2 n5 n6 : Nat) (X Y : Int) (l1 l2 : List Int) (l5 : List Bool) (l6 : List Int) (hg : Bool) (dn al : Int) (cd : ByteArray) (fe fp : Int) (w : World) (r : Ending) (w' : World) : Prop :=
 ∃ A1 c1 A2 c2 A5 c5 A6 c6, r = .returned (.tuple #[.agg #[.string k, .int .i64 (p), .slice A1 n1 c1, .int .i64 (X), .int .i64 (Y), .slice A5 n5 c5, .slice A2 n2 c2, .bool hg, .slice A6 n6 c6, .int .i64 (dn), .int .i64 (al), .string cd], .agg #[.int .i64 (fe), .int .i64 (fp)]]) ∧
  IsInts w' A1 n1 l1 ∧ IsInts w' A2 n2 l2 ∧ OkT w' A5 n5 c5 l5 ∧ IsInts w' A6 n6 l6 ∧ Below w.heap.size w w'
end
section
open Go.RowKit
open Cl Lo
open By (readS)
end
section
open Go.RowKit
open Cl Lo
open By (readS)
set_option maxRecDepth 100000 in
set_option maxHeartbeats 8000000 in
theorem hMake_ok (s : ByteArray) (G : Nat) (rows : List (List Nat)) (w : World) (hT : Tabs w) (hs : s.size ≤ 9223372036854775807) (hr : readS (By.bytesOf s) = (G, .ok rows)) (Wd Hh n N : Nat) (cs : List Int) (hWd : (rows.headD []).length = Wd) (hHh : rows.length = Hh) (hn : rows.reverse.flatten.length = n) (hcs : natI rows.reverse.flatten = cs) (hm : Z.torN Wd Hh = N) (h24 : N ≤ 24)
  (k : Int) (kn : ByteArray) (dl : Nat) (l1 l2 l6 : List Int) (l5 : List Bool) (e q n6 : Nat) (dn al : Int) (cd : ByteArray)
  (HK : Hid (∀ a c w, IsInts w a n cs → Calls Tryd.prog 19 #[.agg #[.int .i64 (G), .int .i64 (Wd), .int .i64 (Hh), .slice a n c]] w fun r w' => r = .returned (.tuple #[.int .i64 (k), .int .i64 (0)]) ∧ Below w.heap.size w w'))
  (HN : Hid (∀ w, Calls Tryd.prog 20 #[.int .i64 (k)] w fun r w' => r = .returned (.tuple #[.string kn, .int .i64 (0)]) ∧ Below w.heap.size w w'))
  (hdl : (firstsP G N (Z.movesL Wd Hh cs G N) (N * N)).length = dl)
  (h1 : (ends Wd Hh (rsB cs)).length = e) (h2 : (picks Wd Hh (rsB cs)).length = q) (h3 : natI (thL Wd Hh (rsB cs)) = l1) (h4 : natI (trL Wd Hh (rsB cs)) = l2) (h5 : tieL Wd Hh (rsB cs) = l5) (h6 : natI (lift (Wd+Hh) (abM Wd Hh (rsB cs))) = l6) (h6n : (lift (Wd+Hh) (abM Wd Hh (rsB cs))).length = n6)
  (h7 : longV true Hh Wd (turnL Wd Hh (rsB cs)) = dn) (h8 : longV false Wd Hh (rsB cs) = al) (h9 : strOf (deckL Wd Hh (rsB cs)) = cd) :
  Calls Tryd.prog 7 #[.string s] w (MkU kn dl Wd Hh (e * q) n6 e q l1 l2 l5 l6 (((n6 : Nat) : Int) == 0) dn al cd 0 0 w) := by
 have hC := read_okH (By.bytesOf_lt s) hr
 have HR := Lib.hid (fun w h => chRead_any s w hs h)
 rw [hr] at HR
 have HT := Lib.hid hT
 unfold RdPost at HR
 simp only at HR
 rw [hWd, hHh, hn, hcs] at HR hC
 have hW1 := hC.w1; have hW2 := hC.w2; have hH1 := hC.h1; have hH2 := hC.h2
 have hnn := hC.hn
 have hn4 := hC.n4
 have hn0 : 0 < n := by rw [hnn]; exact Nat.mul_pos hW1 hH1
 have h0 := hC.tpos
 rw [hm] at h0
 have hmf := moves_facts (cs := cs) hC hm h24 h0
 have HD := Lib.hid (fun a c w hI => Domain_ok G Wd Hh n N a c cs w hI hC hm h24 h0 hmf.2.2.2)
 unfold PtPost at HD
 have hlr : (rsB cs).length = n := by unfold rsB; rw [List.length_map, ← hcs, ← hn]; unfold natI; rw [List.length_map]
 have HRA := Lib.hid (fun a c w (hI : IsInts w a n cs) => raised_ok G Wd Hh a n c cs w hI hn4 (fun j hj => by
  have hjl : j < cs.length := by rw [hI.1]; exact hj
  rw [List.getD_eq_getElem?_getD, List.getElem?_eq_getElem hjl]
  exact (hC.cr _ (List.getElem_mem hjl)).1))
 unfold RsPost at HRA
 rw [hlr] at HRA
 clear hlr
 have HWV := Lib.hid (fun a c ob k p w hT hR hoff => weave_ok Wd Hh n a c (rsB cs) ob k p w hT hW2 hH2 hW1 hH1 hnn hR hoff)
 unfold WvPost at HWV
 rw [hdl] at HD
 rw [h1, h2, h3, h4, h5, h6, h7, h8, h9, h6n] at HWV
 generalize rsB cs = bs at *
 clear hT hs hr hC hm hmf hdl h1 h2 h3 h4 h5 h6 h6n h7 h8 h9 hnn hWd hHh hn hcs
 go_enter Tryd.func7, Tryd.ntmps7
 go_wp2_with fail
 refine (HR.out _ (HT.out.below blw)).mono ?_
 rintro r w1 ⟨⟨A, C, rfl, hI⟩, hb⟩
 have hlen := hI.1
 have HB1 : Hid (Below w.heap.size w w1) := Lib.hid (Below.trans blw (hb.mono bnd))
 have res : w1.rowIs w.heap.size 37 12 mZ := rowBelow (rowBelow (mZ_alloc w) ((Below.refl _ _).alloc (Nat.le_refl _) _) (by simp)) hb (by simp; omega)
 have flt : w1.rowIs (w.heap.size + 1) 28 2 fZ := by
  have := fZ_alloc (w.alloc (.cells #[.string ⟨#[]⟩, .int .i64 0, .slice none 0 0, .int .i64 0, .int .i64 0, .slice none 0 0, .slice none 0 0, .bool false, .slice none 0 0, .int .i64 0, .int .i64 0, .string ⟨#[]⟩] 37))
  rw [World.size_alloc] at this
  exact rowBelow this hb (by simp)
 have hsz := hb.size
 simp only [World.size_alloc] at hsz
 have HI1 := Lib.hid hI
 have RES := Lib.hid res
 have FLT := Lib.hid flt
 clear hI hb res flt HT HR
 obtain ⟨rb, hrb⟩ : ∃ rb, rb = w.heap.size := ⟨_, rfl⟩
 obtain ⟨fb, hfb⟩ : ∃ fb, fb = w.heap.size + 1 := ⟨_, rfl⟩
 rw [← hrb] at RES FLT hfb ⊢
 rw [← hfb] at FLT ⊢
 have HRB := Lib.hid hrb
 have HFB := Lib.hid hfb
 clear hrb hfb
 go_wp2_with fail
 refine (HK.out _ _ _ (HI1.out.below blw)).mono ?_
 rintro r w2 ⟨rfl, hb⟩
 have hb2 : Below w1.heap.size w1 w2 := Below.trans ((Below.alloc (Below.alloc (Below.refl _ _) (Nat.le_refl _) _) (by simp) _)) (hb.mono (by simp; omega))
 have cht : w2.rowIs w1.heap.size 25 4 (chM G Wd Hh (.slice A n C)) := rowBelow (rowBelow (chM_alloc w1 G Wd Hh A n C) ((Below.refl _ _).alloc (Nat.le_refl _) _) (by simp)) hb (by simp; omega)
 have CHT := Lib.hid cht
 have HB2 := Lib.hid hb2
 have hsz2 := hb.size
 simp only [World.size_alloc] at hsz2
 clear hb cht hb2
 obtain ⟨cb, hcb⟩ : ∃ cb, cb = w1.heap.size := ⟨_, rfl⟩
 rw [← hcb] at CHT ⊢
 have HCB := Lib.hid hcb
 clear hcb
 go_wp2_with fail
 refine (HN.out _).mono ?_
 rintro r w3 ⟨rfl, hb⟩
 have HX : Hid (HMk w2.heap.size rb fb cb mZ G Wd Hh A n C cs w w3) := Lib.hid (by
  have a2 : Below w2.heap.size w2 (w2.alloc (.cells #[.string ⟨#[]⟩, .int .i64 0, .slice none 0 0, .int .i64 0, .int .i64 0, .slice none 0 0, .slice none 0 0, .bool false, .slice none 0 0, .int .i64 0, .int .i64 0, .string ⟨#[]⟩] 37)) := (Below.refl _ _).alloc (Nat.le_refl _) _
  have b2 := HB2.out
  have z := HB2.out.size
  have hrb := HRB.out; have hfb := HFB.out; have hcb := HCB.out
  have l1 := RES.out.lt
  have l2 := FLT.out.lt
  have l3 := CHT.out.lt
  have hbb : Below w2.heap.size w2 w3 := a2.trans (hb.mono (by simp))
  refine ⟨rowBelow (mZ_alloc w2) hb (by simp), rowBelow (rowBelow RES.out b2 l1) hbb (by omega), rowBelow (rowBelow FLT.out b2 l2) hbb (by omega), rowBelow CHT.out hbb l3, (HI1.out.below b2).below hbb, by omega, by omega, by omega, fun b o eb => ?_, ?_, ?_⟩
  ·obtain ⟨b', o', e1, e2, _⟩ := HI1.out.2 hn0
   rw [e1] at eb
   injection eb with eb
   injection eb with eb
   omega
  ·exact (HB1.out.trans (b2.mono HB1.out.size)).trans (hbb.mono (Nat.le_trans HB1.out.size z))
  ·have := HB1.out.size; omega)
 obtain ⟨ob, hob⟩ : ∃ ob, ob = w2.heap.size := ⟨_, rfl⟩
 rw [← hob] at HX ⊢
 have hrbo : rb < ob := by have := RES.out.lt; have := HB2.out.size; omega
 have hfbo : fb < ob := by have := FLT.out.lt; have := HB2.out.size; omega
 have hrf : rb ≠ fb := by have := HFB.out; omega
 have HWB : Hid (w.heap.size ≤ rb ∧ w.heap.size ≤ fb) := Lib.hid (by have := HRB.out; have := HFB.out; omega)
 clear hb HB2 HB1 HI1 RES FLT CHT hsz hsz2 HK HN hob HCB HRB HFB
 have t0 : w3.cell? ⟨cb, 0, none⟩ = some (.int .i64 (G)) := HX.out.cht.cell (i := 0) (by omega)
 have t1 : w3.cell? ⟨cb, 1, none⟩ = some (.int .i64 (Wd)) := HX.out.cht.cell (i := 1) (by omega)
 have t2 : w3.cell? ⟨cb, 2, none⟩ = some (.int .i64 (Hh)) := HX.out.cht.cell (i := 2) (by omega)
 have t3 : w3.cell? ⟨cb, 3, none⟩ = some (.slice A n C) := HX.out.cht.cell (i := 3) (by omega)
 have lt : LtW cb w3 := HX.out.cht.lt
 have lo : LtW ob w3 := HX.out.row.lt
 have o0 : w3.cell? ⟨ob, 0, none⟩ = some (.string ⟨#[]⟩) := HX.out.row.cell (i := 0) (by omega)
 have g0 := HX.out.row.frozen 0
 have ne1 : ¬ (ob = cb) := fun e => HX.out.n3 e.symm
 have ne2 : ¬ (cb = ob) := HX.out.n3
 go_wp2_with fail
 have HX2 := Lib.hid (HX.out.set 0 (.string kn))
 refine (HD.out _ _ _ HX2.out.ints).mono ?_
 rintro r w4 ⟨⟨A4, C4, rfl, _⟩, hb⟩
 have HX3 := Lib.hid (HX2.out.call hb)
 clear t0 t1 t2 t3 lt lo o0 g0 HX HX2 hb HD
 have HX := HX3
 clear HX3
 have t0 : w4.cell? ⟨cb, 0, none⟩ = some (.int .i64 (G)) := HX.out.cht.cell (i := 0) (by omega)
 have t1 : w4.cell? ⟨cb, 1, none⟩ = some (.int .i64 (Wd)) := HX.out.cht.cell (i := 1) (by omega)
 have t2 : w4.cell? ⟨cb, 2, none⟩ = some (.int .i64 (Hh)) := HX.out.cht.cell (i := 2) (by omega)
 have t3 : w4.cell? ⟨cb, 3, none⟩ = some (.slice A n C) := HX.out.cht.cell (i := 3) (by omega)
 have lt : LtW cb w4 := HX.out.cht.lt
 have lo : LtW ob w4 := HX.out.row.lt
 have o1 : w4.cell? ⟨ob, 1, none⟩ = some (.int .i64 (0)) := HX.out.row.cell (i := 1) (by omega)
 have g1 := HX.out.row.frozen 1
 go_wp2_with fail
 have HX2 := Lib.hid (HX.out.set 1 (.int .i64 (dl)))
 refine (HRA.out _ _ _ HX2.out.ints).mono ?_
 rintro r w5 ⟨A5, C5, rfl, hT5, hb, hf5⟩
 have HX3 := Lib.hid ((HX2.out.call hb).congr (f' := mF (.string kn) (.int .i64 (dl)) (.slice none 0 0) (.int .i64 (0)) (.int .i64 (0)) (.slice none 0 0) (.slice none 0 0) (.bool false) (.slice none 0 0) (.int .i64 (0)) (.int .i64 (0)) (.string ⟨#[]⟩)) (fun j hj => by
 have h12 : j = 0 ∨ j = 1 ∨ j = 2 ∨ j = 3 ∨ j = 4 ∨ j = 5 ∨ j = 6 ∨ j = 7 ∨ j = 8 ∨ j = 9 ∨ j = 10 ∨ j = 11 := by omega
 rcases h12 with rfl | rfl | rfl | rfl | rfl | rfl | rfl | rfl | rfl | rfl | rfl | rfl <;> rfl))
 have hlt5 := HX2.out.row.lt
 have hoff : ∀ b o, A5 = some ⟨b, o, none⟩ → b ≠ ob := fun b o eb => by have := hf5 b o eb; omega
 have HT5 := Lib.hid hT5
 have HOF := Lib.hid hoff
 clear t0 t1 t2 t3 lt lo o1 g1 HX HX2 hb hT5 hf5 hoff hlt5 HRA
 have HX := HX3
 clear HX3
 go_wp2_with fail
 refine (HWV.out A5 C5 ob _ _ w5 HT5.out HX.out.row HOF.out).mono ?_
 rintro r w6 ⟨rfl, A1, c1, A2, c2, A6, c6, A7, c7, hrow, V1, V2, V5, V6, hx⟩
 have hlo := HX.out.row.lt
 have res := hx.rowIs HX.out.res (by omega) (by omega)
 have flt := hx.rowIs HX.out.flt (by omega) (by omega)
 have hbw : Below w.heap.size w w6 := HX.out.bel.trans (hx.below rfl HX.out.le hlo)
 have HBW6 := Lib.hid hbw
 have V1 := Lib.hid V1; have V2 := Lib.hid V2; have V5 := Lib.hid V5; have V6 := Lib.hid V6
 have HRB5 : Hid (rb < w5.heap.size ∧ fb < w5.heap.size) := Lib.hid (by omega)
 have m0 : w6.cell? ⟨ob, 0, none⟩ = some (Value.string kn) := hrow.cell (i := 0) (by omega)
 have m1 : w6.cell? ⟨ob, 1, none⟩ = some (Value.int .i64 (dl : Int)) := hrow.cell (i := 1) (by omega)
 have m2 : w6.cell? ⟨ob, 2, none⟩ = some (.slice A1 Wd c1) := hrow.cell (i := 2) (by omega)
 have m3 : w6.cell? ⟨ob, 3, none⟩ = some (Value.int .i64 (e : Int)) := hrow.cell (i := 3) (by omega)
 have m4 : w6.cell? ⟨ob, 4, none⟩ = some (Value.int .i64 (q : Int)) := hrow.cell (i := 4) (by omega)
 have m5 : w6.cell? ⟨ob, 5, none⟩ = some (.slice A6 (e * q) c6) := hrow.cell (i := 5) (by omega)
 have m6 : w6.cell? ⟨ob, 6, none⟩ = some (.slice A2 Hh c2) := hrow.cell (i := 6) (by omega)
 have m7 : w6.cell? ⟨ob, 7, none⟩ = some (.bool (((n6 : Nat) : Int) == 0)) := hrow.cell (i := 7) (by omega)
 have m8 : w6.cell? ⟨ob, 8, none⟩ = some (.slice A7 n6 c7) := hrow.cell (i := 8) (by omega)
 have m9 : w6.cell? ⟨ob, 9, none⟩ = some (Value.int .i64 dn) := hrow.cell (i := 9) (by omega)
 have m10 : w6.cell? ⟨ob, 10, none⟩ = some (Value.int .i64 al) := hrow.cell (i := 10) (by omega)
 have m11 : w6.cell? ⟨ob, 11, none⟩ = some (.string cd) := hrow.cell (i := 11) (by omega)
 have q0 : w6.cell? ⟨rb, 0, none⟩ = some (Value.string ⟨#[]⟩) := res.cell (i := 0) (by omega)
 have v0 := res.frozen 0
 have q1 : w6.cell? ⟨rb, 1, none⟩ = some (Value.int .i64 0) := res.cell (i := 1) (by omega)
 have v1 := res.frozen 1
 have q2 : w6.cell? ⟨rb, 2, none⟩ = some (.slice none 0 0) := res.cell (i := 2) (by omega)
 have v2 := res.frozen 2
 have q3 : w6.cell? ⟨rb, 3, none⟩ = some (Value.int .i64 0) := res.cell (i := 3) (by omega)
 have v3 := res.frozen 3
 have q4 : w6.cell? ⟨rb, 4, none⟩ = some (Value.int .i64 0) := res.cell (i := 4) (by omega)
 have v4 := res.frozen 4
 have q5 : w6.cell? ⟨rb, 5, none⟩ = some (.slice none 0 0) := res.cell (i := 5) (by omega)
 have v5 := res.frozen 5
 have q6 : w6.cell? ⟨rb, 6, none⟩ = some (.slice none 0 0) := res.cell (i := 6) (by omega)
 have v6 := res.frozen 6
 have q7 : w6.cell? ⟨rb, 7, none⟩ = some (.bool false) := res.cell (i := 7) (by omega)
 have v7 := res.frozen 7
 have q8 : w6.cell? ⟨rb, 8, none⟩ = some (.slice none 0 0) := res.cell (i := 8) (by omega)
 have v8 := res.frozen 8
 have q9 : w6.cell? ⟨rb, 9, none⟩ = some (Value.int .i64 0) := res.cell (i := 9) (by omega)
 have v9 := res.frozen 9
 have q10 : w6.cell? ⟨rb, 10, none⟩ = some (Value.int .i64 0) := res.cell (i := 10) (by omega)
 have v10 := res.frozen 10
 have q11 : w6.cell? ⟨rb, 11, none⟩ = some (.string ⟨#[]⟩) := res.cell (i := 11) (by omega)
 have v11 := res.frozen 11
 have u0 : w6.cell? ⟨fb, 0, none⟩ = some (.int .i64 0) := flt.cell (i := 0) (by omega)
 have u1 : w6.cell? ⟨fb, 1, none⟩ = some (.int .i64 0) := flt.cell (i := 1) (by omega)
 have x0 := flt.frozen 0; have x1 := flt.frozen 1
 have lro : LtW ob w6 := hrow.lt
 have lrr : LtW rb w6 := res.lt
 have lrf : LtW fb w6 := flt.lt
 have k1 : ¬ (rb = ob) := by omega
 have k2 : ¬ (ob = rb) := by omega
 have k3 : ¬ (fb = ob) := by omega
 have k4 : ¬ (ob = fb) := by omega
 have k5 : ¬ (rb = fb) := hrf
 have k6 : ¬ (fb = rb) := fun e => hrf e.symm
 clear hrow res flt hx hbw HX HWV HT5 HOF hlo ne1 ne2 hrbo hfbo hrf hlen
 go_wp2
 refine bodyPost_ret (v := .tuple #[.agg #[.string kn, .int .i64 dl, .slice A1 Wd c1, .int .i64 e, .int .i64 q, .slice A6 (e * q) c6, .slice A2 Hh c2, .bool (((n6 : Nat) : Int) == 0), .slice A7 n6 c7, .int .i64 dn, .int .i64 al, .string cd], .agg #[.int .i64 0, .int .i64 0]]) (by simp [results, Tryd.results7, go_sem, q0, q1, q2, q3, q4, q5, q6, q7, q8, q9, q10, q11, u0, u1, lrr, lrf, k5, k6]) rfl ?_
 refine ⟨A1, c1, A2, c2, A6, c6, A7, c7, rfl, V1.out.hi ?_, V2.out.hi ?_, V5.out.hi ?_, V6.out.hi ?_, ?_⟩
 ·repeat (first | with_reducible exact Hi.refl _ _ | with_reducible refine Hi.set ?_ HRB5.out.1 _ _ | with_reducible refine Hi.set ?_ HRB5.out.2 _ _)
 ·repeat (first | with_reducible exact Hi.refl _ _ | with_reducible refine Hi.set ?_ HRB5.out.1 _ _ | with_reducible refine Hi.set ?_ HRB5.out.2 _ _)
 ·repeat (first | with_reducible exact Hi.refl _ _ | with_reducible refine Hi.set ?_ HRB5.out.1 _ _ | with_reducible refine Hi.set ?_ HRB5.out.2 _ _)
 ·repeat (first | with_reducible exact Hi.refl _ _ | with_reducible refine Hi.set ?_ HRB5.out.1 _ _ | with_reducible refine Hi.set ?_ HRB5.out.2 _ _)
 ·repeat (first | with_reducible refine Below.setCell ?_ HWB.out.1 _ | with_reducible refine Below.setCell ?_ HWB.out.2 _)
  exact HBW6.out
end
end Go.Proofs.YtajdoobkfbdgoaaDoor
