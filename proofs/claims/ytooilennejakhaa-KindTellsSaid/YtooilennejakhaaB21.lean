/- Lemmas and contracts of functions (what each call returns, and that it changes nothing that was there) that the proof of a law of this seat uses; each lemma states its own conditions. -/
import Derived.Test.YtooilennejakhaaB20
namespace Go.Proofs.Ytooilennejakhaa
open Go.RowKit
set_option linter.unusedVariables false
set_option linter.unusedSimpArgs false
open Z (torN place pnt Mv To lin okT nrm both idm md stepB)
/-- A move's own box, beside a list that grows. -/
structure BoxM (fb : Nat) (m : Mv) (v : Value) (w : World) : Prop where
  c0 : w.cell? ⟨fb, 0, none⟩ = some (.int .i64 (m.t : Int))
  c1 : w.cell? ⟨fb, 1, none⟩ = some (.bool m.f)
  c2 : w.cell? ⟨fb, 2, none⟩ = some (.int .i64 m.o.1)
  c3 : w.cell? ⟨fb, 3, none⟩ = some (.int .i64 m.o.2)
  lt : fb < w.heap.size
  ne : v.ownBlock ≠ some fb
theorem BoxM.below {fb : Nat} {m : Mv} {v : Value} {w w' : World} (h : BoxM fb m v w) (hb : Below w.heap.size w w') : BoxM fb m v w' :=
  ⟨bCs hb h.c0, bCs hb h.c1, bCs hb h.c2, bCs hb h.c3, Nat.lt_of_lt_of_le h.lt hb.size, h.ne⟩
theorem BoxM.app {fb k : Nat} {m : Mv} {v v' : Value} {w w' : World} (h : BoxM fb m v w) (hg : w.grownBy w' v.ownBlock) (hv : v'.ownBlock = v.ownBlock ∨ v'.ownBlock = some k) (hk : w.heap.size ≤ k) : BoxM fb m v' w' := by
  have he := hg.block fb h.lt (fun e => h.ne e.symm)
  refine ⟨(World.cell?_of_block he).trans h.c0, (World.cell?_of_block he).trans h.c1, (World.cell?_of_block he).trans h.c2, (World.cell?_of_block he).trans h.c3, Nat.lt_of_lt_of_le h.lt hg.size, ?_⟩
  rcases hv with e | e
  · rw [e]; exact h.ne
  · rw [e]; intro e2; injection e2 with e3; have := h.lt; omega
theorem BoxM.made {m : Mv} {v : Value} {w : World} {base n e s : Nat} {xs : List Value} (h : w.ownsRow base e s v n xs) : BoxM w.heap.size m v (w.alloc (.cells #[.int .i64 (m.t : Int), .bool m.f, .int .i64 m.o.1, .int .i64 m.o.2] 39)) :=
  ⟨by simp [go_sem], by simp [go_sem], by simp [go_sem], by simp [go_sem], by simp, fun e => by have := (h.lt _ e).2; omega⟩
/-- As wpAppM, with where the new list lies. -/
theorem wpAppMV {W : World} {ops : Array Oper} {rest : List Oper} {o : Oper} {a : Act} {Q : Exit → Act → World → Prop} {t e size bytes : Nat} {z : Value} (hE : ElemOk t e size bytes z)
    (hgd : o.guard = none) (s x : Operand) (ho : o.op = .call { callee := .builtin .append, args := #[s, x], argTypes := #[t, t] })
    (base : Nat) (v : Value) (n : Nat) (xs : List Value) (cs : Array Value) (hs : a.eval s = v) (hown : W.ownsRow base e size v n xs)
    (hx : a.eval x = .slice (some ⟨W.heap.size, 0, none⟩) 1 1) (hl : cs.size = size) (h1 : ∀ u ∈ cs.toList, u.oneCell' = true)
    (hb : bytes ≤ 4096) (hn : n ≤ 1000000000) (hbase : base ≤ W.heap.size)
    (h : ∀ v' w', w'.ownsRow base e size v' (n + 1) (xs ++ cs.toList) → (W.alloc (.cells cs e)).grownBy w' v.ownBlock → (v'.ownBlock = v.ownBlock ∨ v'.ownBlock = some (W.alloc (.cells cs e)).heap.size) → Below base W w' → wpList Try.prog ops Q rest (a.put o.dst v') w') : wpList Try.prog ops Q (o :: rest) a (W.alloc (.cells cs e)) := by
  obtain ⟨h2, h3, h4, h5⟩ := hE
  obtain ⟨i0, hi, hz0, hz1, hz2⟩ := info_parts h3
  refine wpList_append_own_at _ hgd s x t ho base e i0 z size bytes h2 hi hz0 hz1 hz2 h4 h5 v n xs hs (hown.alloc _) ⟨W.heap.size, 0, none⟩ 1 1 cs.toList hx (by simpa using hl) ?_ h1 (by unfold maxLen; omega) ?_ (by simp; omega) ?_
  · intro j u hj
    have : (⟨W.heap.size, 0, none⟩ : Addr).add j = ⟨W.heap.size, j, none⟩ := by rw [Addr.add_lit]; simp
    rw [this, World.cell?_alloc_new]
    simpa using hj
  · calc (n + 1) * bytes ≤ 1000000001 * 4096 := Nat.mul_le_mul (by omega) hb
      _ ≤ 140737488355328 := by omega
  · intro v' w' hown' hg _ hv
    refine h v' w' hown' hg hv ?_
    have hk := hown.lt
    exact ((Below.refl base W).alloc hbase _).trans (belowGrown hg (by simp; omega) fun k hk' => (hk k hk').1)
/-- So many toruses further. -/
def shM (n : Int) (m : Mv) (i j : Int) : Mv := ⟨m.t, m.f, (m.o.1 + n * i, m.o.2 + n * j)⟩
def mirB (g : Int) (m : Mv) : Bool := decide (Z.al g m.t m.o = (0, 0))
def mrR (g n : Int) (m : Mv) (j i : Nat) : List Mv := ((List.range i).map fun (i : Nat) => shM n m ((i : Int) - 5) ((j : Int) - 5)).filter (mirB g)
def mrC (g n : Int) (m : Mv) (j : Nat) : List Mv := (List.range j).flatMap fun j => mrR g n m j 11
def mrL (g n : Int) (L : List Mv) (k : Nat) : List Mv := (L.take k).flatMap fun m => if m.f then mrC g n m 11 else []
theorem mrR_succ (g n : Int) (m : Mv) (j i : Nat) : mrR g n m j (i + 1) = if mirB g (shM n m ((i : Int) - 5) ((j : Int) - 5)) then mrR g n m j i ++ [shM n m ((i : Int) - 5) ((j : Int) - 5)] else mrR g n m j i := by
  unfold mrR
  rw [List.range_succ, List.map_append, List.filter_append]
  simp only [List.map_cons, List.map_nil, List.filter_cons, List.filter_nil]
  split <;> simp
theorem mrC_succ (g n : Int) (m : Mv) (j : Nat) : mrC g n m (j + 1) = mrC g n m j ++ mrR g n m j 11 := by
  unfold mrC; rw [List.range_succ, List.flatMap_append]; simp
theorem mrL_succ (g n : Int) (L : List Mv) (k : Nat) (hk : k < L.length) : mrL g n L (k + 1) = mrL g n L k ++ (if (L.getD k idm).f then mrC g n (L.getD k idm) 11 else []) := by
  have h : L.take (k + 1) = L.take k ++ [L[k]] := by rw [List.take_add_one, List.getElem?_eq_getElem hk]; rfl
  have h2 : L.getD k idm = L[k] := by rw [List.getD_eq_getElem?_getD, List.getElem?_eq_getElem hk]; rfl
  unfold mrL
  rw [h, h2, List.flatMap_append, List.flatMap_cons, List.flatMap_nil, List.append_nil]
theorem both_flip {g : Int} (hg : Z.G g) {t : Nat} (ht : t < g.toNat) (x y : Int) : both g ⟨t, true, (x, y)⟩ ⟨t, true, (x, y)⟩ = ⟨0, false, Z.al g t (x, y)⟩ := by
  have h1 := Z.both_o (g := g) (t := t) (x, y)
  unfold both at h1 ⊢
  simp only at h1
  rw [h1]
  have e : Z.bothT g ⟨t, true, (x, y)⟩ ⟨t, true, (x, y)⟩ = 0 := by
    unfold Z.bothT
    simp only [if_true]
    rw [show t + (g.toNat - t) = g.toNat by omega, Nat.mod_self]
  rw [e]
  rfl
theorem mem_mrL {g n : Int} {L : List Mv} {m : Mv} : m ∈ mrL g n L L.length ↔ ∃ h ∈ L, h.f = true ∧ ∃ i j : Int, (-5 ≤ i ∧ i ≤ 5) ∧ (-5 ≤ j ∧ j ≤ 5) ∧ m = shM n h i j ∧ Z.al g m.t m.o = (0, 0) := by
  unfold mrL
  rw [List.take_length, List.mem_flatMap]
  refine exists_congr fun h => and_congr_right fun hm => ?_
  cases hf : h.f with
  | false => simp
  | true =>
    simp only [if_true, true_and]
    unfold mrC mrR
    simp only [List.mem_flatMap, List.mem_range, List.mem_filter, List.mem_map, mirB, decide_eq_true_eq]
    constructor
    · rintro ⟨j, hj, ⟨i, hi, rfl⟩, h2⟩
      exact ⟨(i : Int) - 5, (j : Int) - 5, by omega, by omega, rfl, h2⟩
    · rintro ⟨i, j, hi, hj, rfl, h2⟩
      refine ⟨(j + 5).toNat, by omega, ⟨(i + 5).toNat, by omega, ?_⟩, h2⟩
      rw [show (((i + 5).toNat : Nat) : Int) - 5 = i by omega, show (((j + 5).toNat : Nat) : Int) - 5 = j by omega]
end Go.Proofs.Ytooilennejakhaa

namespace Go.Proofs.Ytooilennejakhaa
open Go.RowKit
set_option linter.unusedVariables false
set_option linter.unusedSimpArgs false
open Z (torN place pnt Mv To lin okT nrm both idm md stepB)
/-- What is asked of the moves. -/
structure MvsOk (g : Int) (L : List Mv) : Prop where
  t : ∀ m ∈ L, m.t < g.toNat
  o : ∀ m ∈ L, (0 ≤ m.o.1 ∧ m.o.1 ≤ 24) ∧ (0 ≤ m.o.2 ∧ m.o.2 ≤ 24)
theorem getD_mem {L : List Mv} {j : Nat} (h : j < L.length) : L.getD j idm ∈ L := by
  rw [List.getD_eq_getElem?_getD, List.getElem?_eq_getElem h]
  exact List.getElem_mem h
set_option maxRecDepth 100000 in
set_option maxHeartbeats 8000000 in
theorem Mirrors_ok (g cW cH : Int) (ca : Option Addr) (cn cc : Nat) (L : List Mv) (k n : Nat) (a : Option Addr) (c : Nat) (w : World) (hg : g = 4 ∨ g = 6) (hL : IsMoves w a k L) (hO : MvsOk g L) (hk : k ≤ 10000) (hn : n ≤ 24) :
    Calls Try.prog 35 #[.agg #[.int .i64 (g), .int .i64 (cW), .int .i64 (cH), .slice ca cn cc], .int .i64 (n), .slice a k c] w fun r w' => (∃ A C, r = .returned (.slice A (mrL g n L k).length C) ∧ OwnM w' w.heap.size A (mrL g n L k).length C (mrL g n L k)) ∧ Below w.heap.size w w' := by
  have HL := Lib.hid hL
  have HO := Lib.hid hO
  have hlen0 := hL.1
  have HNN : Hid (∀ i j : Int, -5 ≤ i ∧ i ≤ 5 → -5 ≤ j ∧ j ≤ 5 → (-120 ≤ (n : Int) * i ∧ (n : Int) * i ≤ 120) ∧ (-120 ≤ (n : Int) * j ∧ (n : Int) * j ≤ 120)) := Lib.hid (by
    have hb : ∀ i : Int, -5 ≤ i ∧ i ≤ 5 → -120 ≤ (n : Int) * i ∧ (n : Int) * i ≤ 120 := fun i hi => by
      have h1 := Int.mul_le_mul_of_nonneg_left hi.1 (show (0 : Int) ≤ n by omega)
      have h2 := Int.mul_le_mul_of_nonneg_left hi.2 (show (0 : Int) ≤ n by omega)
      omega
    exact fun i j hi hj => ⟨hb i hi, hb j hj⟩)
  obtain ⟨R, hR⟩ : ∃ R, mrL g n L k = R := ⟨_, rfl⟩
  rw [hR]
  have HR := Lib.hid hR
  clear hL hO hR
  go_enter Try.func35, Try.ntmps35
  go_wp2_with fail
  have hG0 := GL.nil (w.alloc (.cells #[.int .i64 g, .int .i64 cW, .int .i64 cH, .slice ca cn cc] 24)) 39 4
  obtain ⟨W1, hW1⟩ : ∃ W1, W1 = w.alloc (.cells #[.int .i64 g, .int .i64 cW, .int .i64 cH, .slice ca cn cc] 24) := ⟨_, rfl⟩
  have HB1 : Hid (Below w.heap.size w W1) := Lib.hid (by rw [hW1]; exact (by repeat (first | exact Below.refl _ _ | refine Below.drew ?_ | refine below_drewN ?_ _ | refine Below.alloc ?_ (by first | exact Nat.le_refl _ | (simp; done) | (simp; omega) | omega) _ | refine Below.setCell ?_ (by first | exact Nat.le_refl _ | (simp; done) | (simp; omega) | omega) _ | refine bExtW ?_ (by first | exact Nat.le_refl _ | (simp; done) | (simp; omega) | omega) | refine Below.trans ?_ (Below.mono (by assumption) (by first | exact Nat.le_refl _ | (simp; done) | (simp; omega) | omega)))))
  have hsz : W1.heap.size = w.heap.size + 1 := by rw [hW1, World.size_alloc]
  have hs0 : w.heap.size < W1.heap.size := by omega
  have cb0 : W1.cell? ⟨w.heap.size, 0, none⟩ = some (.int .i64 (g)) := by rw [hW1]; simp [go_sem]
  have HW1 := Lib.hid hW1
  have HG0 := Lib.hid hG0
  clear hW1 hG0 hsz
  go_loopw [7, 15] (fun ov iv wr => ∃ (i : Nat) (ML : List Mv), i ≤ k ∧ iv = .int .i64 i ∧ Hid (GL 39 4 (mvsK ML) ML.length W1 ov wr) ∧ Hid (ML = mrL g n L i) ∧ ML.length ≤ i * 121) (fun _ iv _ => k - (intOf iv).toNat)
  case atStart => exact ⟨0, [], by omega, rfl, Lib.hid (by rw [HW1.out]; exact HG0.out), Lib.hid rfl, by simp⟩
  case round =>
    obtain ⟨i, ML, hi, rfl, HG, HML, hlen⟩ := hrel
    have k0 := bCs (HG.out).bel cb0
    have lk : LtW w.heap.size wr := Nat.lt_of_lt_of_le hs0 (HG.out).bel.size
    have hsw : W1.heap.size ≤ (wr).heap.size := (HG.out).bel.size
    by_cases hik : i < k
    · have di : decide ((i : Int) < (k : Int)) = true := by simpa using hik
      have vi : IntKind.i64.wrap ((i : Int) + 1) = (i : Int) + 1 := IntWalk.i64_in _ (by omega)
      obtain ⟨b, o, rfl, hb, hc⟩ := ((HL.out.below HB1.out).below HG.out.bel).2 (by omega)
      obtain ⟨c0, c1, c2, c3⟩ := hc i hik
      have lb : LtW b wr := hb
      have hmem := getD_mem (L := L) (j := i) (by omega)
      have ht := HO.out.t _ hmem
      have ho := HO.out.o _ hmem
      have hst := mrL_succ g n L i (by omega)
      obtain ⟨m, hm⟩ : ∃ m, L.getD i idm = m := ⟨_, rfl⟩
      rw [hm] at c0 c1 c2 c3 ht ho hst
      have HST := Lib.hid hst
      clear hb hc hm hmem hst
      obtain ⟨t, f, x, y⟩ := m
      simp only at c0 c1 c2 c3 ht ho
      cases f with
      | false =>
        have HST2 : Hid (mrL g n L (i + 1) = mrL g n L i) := Lib.hid (by rw [HST.out]; simp)
        clear HST
        go_wp2_with fail
        go_roundw
        case rel => exact ⟨i + 1, ML, by omega, by go_num, Lib.hid (HG.out.below (by repeat (first | exact Below.refl _ _ | refine Below.drew ?_ | refine below_drewN ?_ _ | refine Below.alloc ?_ (by first | exact Nat.le_refl _ | (simp; done) | (simp; omega) | omega) _ | refine Below.setCell ?_ (by first | exact Nat.le_refl _ | (simp; done) | (simp; omega) | omega) _ | refine bExtW ?_ (by first | exact Nat.le_refl _ | (simp; done) | (simp; omega) | omega) | refine Below.trans ?_ (Below.mono (by assumption) (by first | exact Nat.le_refl _ | (simp; done) | (simp; omega) | omega))))), Lib.hid (by rw [HST2.out]; exact HML.out), by omega⟩
        case measure => simp [intOf]; omega
      | true =>
        have HST2 : Hid (mrL g n L (i + 1) = mrL g n L i ++ mrC g n ⟨t, true, (x, y)⟩ 11) := Lib.hid (by rw [HST.out]; simp)
        have HBX := Lib.hid (BoxM.made (m := ⟨t, true, (x, y)⟩) HG.out.own)
        have HGN := Lib.hid (HG.out.alloc (.cells #[.int .i64 t, .bool true, .int .i64 x, .int .i64 y] 39))
        clear HST
        go_wp2_with fail
        clear k0 lk hsw
        clear c0 c1 c2 c3 lb
        have lfb : wr.heap.size < (wr.alloc (.cells #[.int .i64 t, .bool true, .int .i64 x, .int .i64 y] 39)).heap.size := by simp
        have hswx : W1.heap.size ≤ wr.heap.size := HG.out.bel.size
        clear HG
        obtain ⟨wo, hwo⟩ : ∃ wo : World, wo = wr.alloc (.cells #[.int .i64 t, .bool true, .int .i64 x, .int .i64 y] 39) := ⟨_, rfl⟩
        rw [← hwo] at HGN HBX lfb
        have HWO := Lib.hid hwo
        clear hwo
        obtain ⟨fb, hfb⟩ : ∃ fb, fb = wr.heap.size := ⟨_, rfl⟩
        rw [← hfb] at HBX lfb hswx ⊢
        clear hfb
        obtain ⟨wy, rfl⟩ : ∃ wy : World, wy = wr := ⟨_, rfl⟩
        go_loopw [7, 10] (fun ov yv wr => ∃ (j : Nat) (v : Int) (NL : List Mv), j ≤ 11 ∧ (-5 ≤ v ∧ v ≤ 6) ∧ Hid (v = (j : Int) - 5) ∧ yv = .int .i64 v ∧ Hid (GL 39 4 (mvsK NL) NL.length W1 ov wr) ∧ Hid (BoxM fb ⟨t, true, (x, y)⟩ ov wr) ∧ Hid (NL = ML ++ mrC g n ⟨t, true, (x, y)⟩ j) ∧ NL.length ≤ ML.length + j * 11) (fun _ yv _ => (6 - intOf yv).toNat)
        case atStart => exact ⟨0, -5, ML, by omega, by omega, Lib.hid rfl, rfl, by rw [← HWO.out]; exact HGN, by rw [← HWO.out]; exact HBX, Lib.hid (by simp [mrC]), by omega⟩
        case round =>
          clear HGN HBX HWO
          obtain ⟨j, v, NL, hj, hv, HV, rfl, HG, HX, HNL, hnl⟩ := hrel
          by_cases hj5 : v ≤ 5
          · have dv : decide (v ≤ 5) = true := by simpa using hj5
            have vv : IntKind.i64.wrap (v + 1) = v + 1 := IntWalk.i64_in _ (by omega)
            go_wp2_with fail
            obtain ⟨wz, rfl⟩ : ∃ wz : World, wz = wr := ⟨_, rfl⟩
            go_loopw [7, 11] (fun ov xv wr => ∃ (i' : Nat) (u : Int) (PL : List Mv), i' ≤ 11 ∧ (-5 ≤ u ∧ u ≤ 6) ∧ Hid (u = (i' : Int) - 5) ∧ xv = .int .i64 u ∧ Hid (GL 39 4 (mvsK PL) PL.length W1 ov wr) ∧ Hid (BoxM fb ⟨t, true, (x, y)⟩ ov wr) ∧ Hid (PL = NL ++ mrR g n ⟨t, true, (x, y)⟩ j i') ∧ PL.length ≤ NL.length + i') (fun _ xv _ => (6 - intOf xv).toNat)
            case atStart => exact ⟨0, -5, NL, by omega, by omega, Lib.hid rfl, rfl, HG, HX, Lib.hid (by simp [mrR]), by omega⟩
            case round =>
              clear HG HX
              obtain ⟨i', u, PL, hi', hu, HU, rfl, HG, HX, HPL, hpl⟩ := hrel
              have k0 := bCs (HG.out).bel cb0
              have lk : LtW w.heap.size wr := Nat.lt_of_lt_of_le hs0 (HG.out).bel.size
              have hsw : W1.heap.size ≤ (wr).heap.size := (HG.out).bel.size
              by_cases hu5 : u ≤ 5
              · have du : decide (u ≤ 5) = true := by simpa using hu5
                have vu : IntKind.i64.wrap (u + 1) = u + 1 := IntWalk.i64_in _ (by omega)
                have hnb := HNN.out u v (by omega) (by omega)
                have HSH := Lib.hid (fun w => shifted_any (n : Int) u v t true x y w (by omega) (by omega) (by omega) (by omega) (by omega))
                have hsm : (⟨t, true, (x + (n : Int) * u, y + (n : Int) * v)⟩ : Mv) = shM n ⟨t, true, (x, y)⟩ u v := rfl
                have hrs := mrR_succ g n ⟨t, true, (x, y)⟩ j i'
                rw [← HU.out, ← HV.out, ← hsm] at hrs
                obtain ⟨p, hp⟩ : ∃ p, x + (n : Int) * u = p := ⟨_, rfl⟩
                obtain ⟨q, hq⟩ : ∃ q, y + (n : Int) * v = q := ⟨_, rfl⟩
                rw [hp, hq] at HSH hrs
                have bp : -200 ≤ p ∧ p ≤ 200 := by omega
                have bq : -200 ≤ q ∧ q ≤ 200 := by omega
                have HTW := Lib.hid (fun w => Twice_any g t true p q w hg ht (Int.le_trans (Z.nrm_bd hg (a := (p, q)) (B := 200) (by simp only; omega) (by simp only; omega)) (by decide)))
                rw [both_flip hg ht] at HTW
                obtain ⟨e1, e2, he⟩ : ∃ e1 e2, Z.al g t (p, q) = (e1, e2) := ⟨_, _, rfl⟩
                have hmb : mirB g ⟨t, true, (p, q)⟩ = decide ((e1, e2) = ((0, 0) : Z.Pt)) := by unfold mirB; simp only; rw [he]
                have hV1 : mvV ⟨t, true, (p, q)⟩ = .agg #[.int .i64 (t), .bool (true), .int .i64 (p), .int .i64 (q)] := rfl
                have hV2 : mvV ⟨0, false, (e1, e2)⟩ = .agg #[.int .i64 (0), .bool (false), .int .i64 (e1), .int .i64 (e2)] := rfl
                rw [hV1] at HSH
                rw [he, hV2] at HTW
                rw [hmb] at hrs
                have HRS := Lib.hid hrs
                clear hrs hsm hp hq he hmb hV1 hV2 hnb
                have x0 := HX.out.c0
                have x1 := HX.out.c1
                have x2 := HX.out.c2
                have x3 := HX.out.c3
                have lx : LtW fb wr := HX.out.lt
                simp only at x0 x1 x2 x3
                go_wp2_with fail
                refine (HSH.out _).mono ?_
                rintro r w3 ⟨rfl, hb3⟩
                have HG3 := Lib.hid (HG.out.below hb3)
                have HX3 := Lib.hid (HX.out.below hb3)
                have k3 := bCs hb3 k0
                have lk3 : LtW w.heap.size w3 := Nat.lt_of_lt_of_le lk hb3.size
                clear k0 lk hsw
                clear HG HX hb3 x0 x1 x2 x3 lx
                by_cases hz : e1 = 0 ∧ e2 = 0
                · obtain ⟨rfl, rfl⟩ := hz
                  have HRS2 : Hid (mrR g n ⟨t, true, (x, y)⟩ j (i' + 1) = mrR g n ⟨t, true, (x, y)⟩ j i' ++ [⟨t, true, (p, q)⟩]) := Lib.hid (by rw [HRS.out]; simp)
                  clear HRS
                  (go_wp2_with fail; refine (HTW.out _).mono ?_; rintro r w1 ⟨rfl, hb⟩; obtain ⟨E, d, rfl⟩ := bExt hb; clear hb)
                  clear k3 lk3
                  have hbw : Below w3.heap.size w3 (extW (w3.alloc (.cells #[.int .i64 t, .bool true, .int .i64 p, .int .i64 q] 39)) E d) := (by repeat (first | exact Below.refl _ _ | refine Below.drew ?_ | refine below_drewN ?_ _ | refine Below.alloc ?_ (by first | exact Nat.le_refl _ | (simp; done) | (simp; omega) | omega) _ | refine Below.setCell ?_ (by first | exact Nat.le_refl _ | (simp; done) | (simp; omega) | omega) _ | refine bExtW ?_ (by first | exact Nat.le_refl _ | (simp; done) | (simp; omega) | omega) | refine Below.trans ?_ (Below.mono (by assumption) (by first | exact Nat.le_refl _ | (simp; done) | (simp; omega) | omega))))
                  have HG4 := Lib.hid (HG3.out.below hbw)
                  have HX4 := Lib.hid (HX3.out.below hbw)
                  clear hbw HG3 HX3
                  go_wp2_with (at_builtin; refine wpAppMV okMv rfl (.tmp 41) (.tmp 43) rfl W1.heap.size _ _ _ #[.int .i64 (t : Int), .bool true, .int .i64 p, .int .i64 q] rfl HG4.out.own (show Value.slice (some ⟨w3.heap.size + 1 + E.size, 0, none⟩) 1 1 = _ by rw [size_extW, World.size_alloc]) rfl ?_ (by omega) (by omega) HG4.out.bel.size ?_)
                  · simp [Value.oneCell']
                  intro v' w4 hown4 hg4 hv4 hb4
                  obtain ⟨A', cp', rfl⟩ := own_form hown4
                  have HG5 : Hid (GL 39 4 (mvsK (PL ++ [⟨t, true, (p, q)⟩])) (PL ++ [(⟨t, true, (p, q)⟩ : Mv)]).length W1 (.slice A' (PL.length + 1) cp') w4) := Lib.hid ⟨by rw [mvsK_app, List.length_append]; exact hown4, HG4.out.bel.trans hb4⟩
                  have HX5 := Lib.hid ((HX4.out.below ((Below.refl _ _).alloc (Nat.le_refl _) _)).app hg4 hv4 (by first | exact Nat.le_refl _ | (simp; done) | (simp; omega) | omega))
                  clear hown4 hg4 hv4 hb4 HG4 HX4
                  go_wp2
                  go_roundw
                  case rel => exact ⟨i' + 1, u + 1, PL ++ [⟨t, true, (p, q)⟩], by have := HU.out; omega, by omega, Lib.hid (by have := HU.out; omega), by go_num, HG5, HX5, Lib.hid (by rw [HRS2.out, ← List.append_assoc, ← HPL.out]), by simp; omega⟩
                  case measure => simp [intOf]; omega
                · have HRS2 : Hid (mrR g n ⟨t, true, (x, y)⟩ j (i' + 1) = mrR g n ⟨t, true, (x, y)⟩ j i') := Lib.hid (by rw [HRS.out]; simp [hz])
                  have hcz : (e1 == 0) = false ∨ ((e1 == 0) = true ∧ (e2 == 0) = false) := by
                    by_cases q1 : e1 = 0
                    · exact .inr ⟨by simpa using q1, by simpa using fun q2 => hz ⟨q1, q2⟩⟩
                    · exact .inl (by simpa using q1)
                  clear HRS hz
                  rcases hcz with q1 | ⟨q1, q2⟩
                  all_goals
                    (go_wp2_with fail; refine (HTW.out _).mono ?_; rintro r w1 ⟨rfl, hb⟩; obtain ⟨E, d, rfl⟩ := bExt hb; clear hb)
                    clear k3 lk3
                    have hbw : Below w3.heap.size w3 (extW (w3.alloc (.cells #[.int .i64 t, .bool true, .int .i64 p, .int .i64 q] 39)) E d) := (by repeat (first | exact Below.refl _ _ | refine Below.drew ?_ | refine below_drewN ?_ _ | refine Below.alloc ?_ (by first | exact Nat.le_refl _ | (simp; done) | (simp; omega) | omega) _ | refine Below.setCell ?_ (by first | exact Nat.le_refl _ | (simp; done) | (simp; omega) | omega) _ | refine bExtW ?_ (by first | exact Nat.le_refl _ | (simp; done) | (simp; omega) | omega) | refine Below.trans ?_ (Below.mono (by assumption) (by first | exact Nat.le_refl _ | (simp; done) | (simp; omega) | omega))))
                    have HG4 := Lib.hid (HG3.out.below hbw)
                    have HX4 := Lib.hid (HX3.out.below hbw)
                    clear hbw HG3 HX3
                    go_wp2
                    go_roundw
                    case rel => exact ⟨i' + 1, u + 1, PL, by have := HU.out; omega, by omega, Lib.hid (by have := HU.out; omega), by go_num, HG4, HX4, Lib.hid (by rw [HRS2.out]; exact HPL.out), by omega⟩
                    case measure => simp [intOf]; omega
              · obtain rfl : u = 6 := by omega
                have du : decide ((6 : Int) ≤ 5) = false := by simp
                have hi11 : i' = 11 := by have := HU.out; omega
                have HNC : Hid (PL = ML ++ mrC g n ⟨t, true, (x, y)⟩ (j + 1)) := Lib.hid (by rw [HPL.out, hi11, HNL.out, mrC_succ, List.append_assoc])
                clear HPL HU
                clear k0 lk hsw
                go_wp2
                go_roundw
                case rel => exact ⟨j + 1, v + 1, PL, by have := HV.out; omega, by omega, Lib.hid (by have := HV.out; omega), by go_num, HG, HX, HNC, by omega⟩
                case measure => simp [intOf]; omega
          · obtain rfl : v = 6 := by omega
            have dv : decide ((6 : Int) ≤ 5) = false := by simp
            have hj11 : j = 11 := by have := HV.out; omega
            have HNC : Hid (NL = mrL g n L (i + 1)) := Lib.hid (by rw [HNL.out, hj11, HML.out, HST2.out])
            clear HNL HV
            go_wp2
            go_roundw
            case rel => exact ⟨i + 1, NL, by omega, by go_num, HG, HNC, by omega⟩
            case measure => simp [intOf]; omega
    · obtain rfl : i = k := by omega
      have di : decide ((i : Int) < (i : Int)) = false := by simp
      obtain ⟨A, C, rfl⟩ := own_form HG.out.own
      have HOW : Hid (OwnM wr w.heap.size A ML.length C ML) := Lib.hid ⟨rfl, own_baseV HG.out.own (Nat.le_of_lt hs0)⟩
      have HBL := Lib.hid (HB1.out.trans (HG.out.bel.mono (Nat.le_of_lt hs0)))
      obtain rfl : ML = R := HML.out.trans HR.out
      clear HG HML HL HO HNN HR
      go_wp2
      go_ret
      exact ⟨⟨A, C, rfl, HOW.out⟩, HBL.out⟩
end Go.Proofs.Ytooilennejakhaa

namespace Go.Proofs.Ytooilennejakhaa
open Go.RowKit
set_option linter.unusedVariables false
set_option linter.unusedSimpArgs false
open Z (torN place pnt Mv To lin okT nrm both idm md stepB)
/-- What is asked of the mirrors. -/
structure MvsB (g : Int) (L : List Mv) : Prop where
  t : ∀ m ∈ L, m.t < g.toNat
  o : ∀ m ∈ L, (-200 ≤ m.o.1 ∧ m.o.1 ≤ 200) ∧ (-200 ≤ m.o.2 ∧ m.o.2 ≤ 200)
def onB (g : Int) (M : List Mv) (r : Mv) : Bool := M.any fun m => decide (both g (both g m r) (both g m r) = idm)
theorem onB_true {g : Int} {M : List Mv} {r m : Mv} (h : m ∈ M) (e : both g (both g m r) (both g m r) = idm) : onB g M r = true := List.any_eq_true.2 ⟨m, h, by simpa using e⟩
theorem onB_false {g : Int} {M : List Mv} {r : Mv} (h : ∀ j, j < M.length → both g (both g (M.getD j idm) r) (both g (M.getD j idm) r) ≠ idm) : onB g M r = false := by
  rw [← Bool.not_eq_true]
  intro e
  obtain ⟨m, hm, e2⟩ := List.any_eq_true.1 e
  obtain ⟨j, hj, rfl⟩ := List.mem_iff_getElem.1 hm
  refine h j hj ?_
  rw [List.getD_eq_getElem?_getD, List.getElem?_eq_getElem hj]
  simpa using e2
set_option maxRecDepth 100000 in
set_option maxHeartbeats 8000000 in
theorem on_ok (g : Int) (M : List Mv) (k t : Nat) (f : Bool) (x y : Int) (a : Option Addr) (c : Nat) (w : World) (hg : g = 4 ∨ g = 6) (ht : t < g.toNat) (hx : -200 ≤ x ∧ x ≤ 200) (hy : -200 ≤ y ∧ y ≤ 200) (hL : IsMoves w a k M) (hO : MvsB g M) (hk : k ≤ 10000000) :
    Calls Try.prog 51 #[.int .i64 (g), .agg #[.int .i64 (t), .bool (f), .int .i64 (x), .int .i64 (y)], .slice a k c] w fun e w' => e = .returned (.bool (onB g M ⟨t, f, (x, y)⟩)) ∧ Below w.heap.size w w' := by
  have HL := Lib.hid hL
  have HO := Lib.hid hO
  have hlen := hL.1
  have HT : Hid (∀ m, m ∈ M → both g (both g m ⟨t, f, (x, y)⟩) (both g m ⟨t, f, (x, y)⟩) = idm → onB g M ⟨t, f, (x, y)⟩ = true) := Lib.hid fun m h e => onB_true h e
  have HF : Hid ((∀ j, j < k → both g (both g (M.getD j idm) ⟨t, f, (x, y)⟩) (both g (M.getD j idm) ⟨t, f, (x, y)⟩) ≠ idm) → onB g M ⟨t, f, (x, y)⟩ = false) := Lib.hid fun h => onB_false (by rw [hlen]; exact h)
  generalize onB g M ⟨t, f, (x, y)⟩ = hb at *
  clear hL hO
  go_enter Try.func51, Try.ntmps51
  go_wp2_with fail
  go_loopw [11] (fun iv wr => ∃ (j : Nat) (E : Array Obj) (d : Nat), j ≤ k ∧ iv = .int .i64 j ∧ Hid (∀ i, i < j → both g (both g (M.getD i idm) ⟨t, f, (x, y)⟩) (both g (M.getD i idm) ⟨t, f, (x, y)⟩) ≠ idm) ∧ wr = extW (w.alloc (.cells #[.int .i64 t, .bool f, .int .i64 x, .int .i64 y] 39)) E d) (fun iv _ => k - (intOf iv).toNat)
  case atStart =>
    obtain ⟨E0, d0, h0⟩ := bExt (Below.refl (w.alloc (.cells #[.int .i64 t, .bool f, .int .i64 x, .int .i64 y] 39)).heap.size (w.alloc (.cells #[.int .i64 t, .bool f, .int .i64 x, .int .i64 y] 39)))
    exact ⟨0, E0, d0, by omega, rfl, Lib.hid fun i h => absurd h (by omega), h0⟩
  case round =>
    obtain ⟨j, E1, d1, hj, rfl, HN, rfl⟩ := hrel
    by_cases hjk : j < k
    · have dj : decide ((j : Int) < (k : Int)) = true := by simpa using hjk
      have vj : IntKind.i64.wrap ((j : Int) + 1) = (j : Int) + 1 := IntWalk.i64_in _ (by omega)
      obtain ⟨b, o, rfl, hbb, hc⟩ := HL.out.2 (by omega)
      obtain ⟨c0, c1, c2, c3⟩ := hc j hjk
      have lb : LtW b w := hbb
      have hmem := getD_mem (L := M) (j := j) (by omega)
      have ht' := HO.out.t _ hmem
      have ho' := HO.out.o _ hmem
      have HTM := Lib.hid (HT.out _ hmem)
      have HN2 : Hid (both g (both g (M.getD j idm) ⟨t, f, (x, y)⟩) (both g (M.getD j idm) ⟨t, f, (x, y)⟩) ≠ idm → ∀ i, i < j + 1 → both g (both g (M.getD i idm) ⟨t, f, (x, y)⟩) (both g (M.getD i idm) ⟨t, f, (x, y)⟩) ≠ idm) := Lib.hid fun hne i hi => by
        by_cases e : i = j
        · subst e; exact hne
        · exact HN.out i (by omega)
      obtain ⟨m, hm⟩ : ∃ m, M.getD j idm = m := ⟨_, rfl⟩
      rw [hm] at c0 c1 c2 c3 ht' ho' HTM HN2
      clear hbb hc hm hmem
      obtain ⟨t', f', x', y'⟩ := m
      simp only at c0 c1 c2 c3 ht' ho'
      have n1 := Z.nrm_bd hg (a := (x', y')) (B := 200) ho'.1 ho'.2
      have n2 := Z.nrm_bd hg (a := (x, y)) (B := 200) hx hy
      have HTH := Lib.hid (fun w => rThen_any g x' y' x y t' t f' f w hg ht' ht (Int.le_trans n1 (by decide)) (Int.le_trans n2 (by decide)))
      have hbo : okT g (both g ⟨t', f', (x', y')⟩ ⟨t, f, (x, y)⟩) := Z.both_ok hg _ _
      have n3 : nrm g (both g ⟨t', f', (x', y')⟩ ⟨t, f, (x, y)⟩).o ≤ 10000000 := by
        have h1 := Z.nrm_To hg ⟨t', f', (x', y')⟩ (x, y)
        simp only at h1
        show nrm g (To g ⟨t', f', (x', y')⟩ (x, y)) ≤ 10000000
        omega
      obtain ⟨T, F, X, Y, hB⟩ : ∃ (T : Nat) (F : Bool) (X Y : Int), both g ⟨t', f', (x', y')⟩ ⟨t, f, (x, y)⟩ = ⟨T, F, (X, Y)⟩ := ⟨_, _, _, _, rfl⟩
      rw [hB] at HTH HTM HN2 hbo n3
      have HTW := Lib.hid (fun w => Twice_any g T F X Y w hg hbo (Int.le_trans n3 (by decide)))
      obtain ⟨T2, F2, X2, Y2, hB2⟩ : ∃ (T2 : Nat) (F2 : Bool) (X2 Y2 : Int), both g ⟨T, F, (X, Y)⟩ ⟨T, F, (X, Y)⟩ = ⟨T2, F2, (X2, Y2)⟩ := ⟨_, _, _, _, rfl⟩
      rw [hB2] at HTW HTM HN2
      have hV : mvV ⟨T, F, (X, Y)⟩ = .agg #[.int .i64 (T), .bool (F), .int .i64 (X), .int .i64 (Y)] := rfl
      have hV2 : mvV ⟨T2, F2, (X2, Y2)⟩ = .agg #[.int .i64 (T2), .bool (F2), .int .i64 (X2), .int .i64 (Y2)] := rfl
      rw [hV] at HTH
      rw [hV2] at HTW
      clear hV hV2 hB hB2 hbo n3 n1 n2 ho'
      by_cases hall : F2 = false ∧ T2 = 0 ∧ X2 = 0 ∧ Y2 = 0
      · obtain ⟨rfl, rfl, rfl, rfl⟩ := hall
        have HV := Lib.hid (HTM.out rfl)
        clear HT HF HTM HN2 HN
        (go_wp2_with fail; refine (HTH.out _).mono ?_; rintro r w1 ⟨rfl, hb⟩; obtain ⟨E, d, rfl⟩ := bExt hb; clear hb)
        (go_wp2_with fail; refine (HTW.out _).mono ?_; rintro r w1 ⟨rfl, hb⟩; obtain ⟨E, d, rfl⟩ := bExt hb; clear hb)
        go_wp2
        go_ret
        exact ⟨by rw [HV.out]; rfl, (by repeat (first | exact Below.refl _ _ | refine Below.drew ?_ | refine below_drewN ?_ _ | refine Below.alloc ?_ (by first | exact Nat.le_refl _ | (simp; done) | (simp; omega) | omega) _ | refine Below.setCell ?_ (by first | exact Nat.le_refl _ | (simp; done) | (simp; omega) | omega) _ | refine bExtW ?_ (by first | exact Nat.le_refl _ | (simp; done) | (simp; omega) | omega) | refine Below.trans ?_ (Below.mono (by assumption) (by first | exact Nat.le_refl _ | (simp; done) | (simp; omega) | omega))))⟩
      · have HN3 := Lib.hid (HN2.out (by
          intro e
          injection e with e1 e2 e3
          injection e3 with e3 e4
          exact hall ⟨e2, e1, e3, e4⟩))
        have hcase : (((T2 : Int) == 0) = false) ∨ (T2 = 0 ∧ F2 = true) ∨ (T2 = 0 ∧ F2 = false ∧ (X2 == 0) = false) ∨ (T2 = 0 ∧ F2 = false ∧ X2 = 0 ∧ (Y2 == 0) = false) := by
          by_cases e1 : T2 = 0
          · cases F2 with
            | true => exact .inr (.inl ⟨e1, rfl⟩)
            | false =>
              by_cases e3 : X2 = 0
              · by_cases e4 : Y2 = 0
                · exact absurd ⟨rfl, e1, e3, e4⟩ hall
                · exact .inr (.inr (.inr ⟨e1, rfl, e3, by simpa using e4⟩))
              · exact .inr (.inr (.inl ⟨e1, rfl, by simpa using e3⟩))
          · exact .inl (by simp; omega)
        clear hall HT HF HTM HN2 HN
        rcases hcase with e1 | ⟨rfl, rfl⟩ | ⟨rfl, rfl, e3⟩ | ⟨rfl, rfl, rfl, e4⟩
        all_goals
          (go_wp2_with fail; refine (HTH.out _).mono ?_; rintro r w1 ⟨rfl, hb⟩; obtain ⟨E, d, rfl⟩ := bExt hb; clear hb)
          (go_wp2_with fail; refine (HTW.out _).mono ?_; rintro r w1 ⟨rfl, hb⟩; obtain ⟨E, d, rfl⟩ := bExt hb; clear hb)
          go_wp2
          go_roundw
          case rel => exact ⟨j + 1, _, _, by omega, by go_num, HN3, by simp only [alloc_extW, extW_extW]; rfl⟩
          case measure => simp [intOf]; omega
    · obtain rfl : j = k := by omega
      have dj : decide ((j : Int) < (j : Int)) = false := by simp
      have HV := Lib.hid (HF.out HN.out)
      clear HT HF HN
      go_wp2
      go_ret
      exact ⟨by rw [HV.out]; rfl, (by repeat (first | exact Below.refl _ _ | refine Below.drew ?_ | refine below_drewN ?_ _ | refine Below.alloc ?_ (by first | exact Nat.le_refl _ | (simp; done) | (simp; omega) | omega) _ | refine Below.setCell ?_ (by first | exact Nat.le_refl _ | (simp; done) | (simp; omega) | omega) _ | refine bExtW ?_ (by first | exact Nat.le_refl _ | (simp; done) | (simp; omega) | omega) | refine Below.trans ?_ (Below.mono (by assumption) (by first | exact Nat.le_refl _ | (simp; done) | (simp; omega) | omega))))⟩
end Go.Proofs.Ytooilennejakhaa
