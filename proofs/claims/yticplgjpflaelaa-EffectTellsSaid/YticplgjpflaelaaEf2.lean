/- Lemmas and contracts of functions (what each call returns, and that it changes nothing that was there) that the proof of a law of this seat uses; each lemma states its own conditions. -/
import Derived.Test.YticplgjpflaelaaEf1
import Derived.Test.YticplgjpflaelaaEfN
import Derived.Test.YticplgjpflaelaaOwnS
import Derived.Test.YticplgjpflaelaaQ1
namespace Go.Proofs.Yticplgjpflaelaa
open Go.RowKit
set_option linter.unusedVariables false
set_option linter.unusedSimpArgs false
open Ef
theorem map_set {p : List Int} {i : Nat} {k : Int} : (p.set i k).map i64v = (p.map i64v).set i (i64v k) := by rw [List.map_set]
theorem g_at {p : List Int} {i : Nat} (hi : i < p.length) : (p.map i64v)[i]? = some (.int .i64 (g p i)) := by
  rw [List.getElem?_map, List.getElem?_eq_getElem hi]
  simp [g, List.getD, hi, i64v]
/-- The untied strands, read off the world. -/
def wcnt (w : World) (tb N : Nat) : Nat := (List.range N).countP fun i => decide (cellInt w tb i < 0)
theorem wcnt_eq {w : World} {base tb N cap : Nat} {p : List Int} (hp : p.length = N) (h : w.ownsRow base 3 1 (.slice (some ⟨tb, 0, none⟩) N cap) N (p.map i64v)) : wcnt w tb N = cnt p N := by
  unfold wcnt cnt
  refine List.countP_congr fun i hi => ?_
  rw [List.mem_range] at hi
  rw [cellInt_of (by rw [(own_cell h hi).1, g_at (by omega)])]
def lenOf : Value → Nat
  | .slice _ n _ => n
  | _ => 0
def natS (T : List Nat) : List Value := T.map fun x : Nat => i64v (x : Int)
/-- What trying a colour leaves. -/
def TryPost (W H N pb : Nat) (ca : Option Addr) (cn cc : Nat) (cs : List Int) (base : Nat) (p0 p : List Int) (w : World) (r : Ending) (w' : World) : Prop :=
  ∃ (tb cap : Nat) (ok : Bool) (p' : List Int), r = .returned (.bool ok) ∧ w'.rowIs pb 97 5 (picF W H ca cn cc (.slice (some ⟨tb, 0, none⟩) N cap)) ∧
    w'.ownsRow base 3 1 (.slice (some ⟨tb, 0, none⟩) N cap) N (p'.map i64v) ∧ BelowX base pb w w' ∧ (ok = true → Least W cs p0 p') ∧ (ok = false → p' = p ∧ Never W cs p0)
theorem BelowX.trans {base mb : Nat} {W w w' : World} (h : BelowX base mb W w) (k : BelowX base mb w w') : BelowX base mb W w' :=
  ⟨k.os.trans h.os, k.tape.trans h.tape, k.output.trans h.output, k.size, fun b h1 h2 => (k.block b h1 h2).trans (h.block b h1 h2)⟩
theorem BelowX.of_below {base mb : Nat} {W w : World} (hb : base ≤ W.heap.size) (h : Below base W w) : BelowX base mb W w :=
  ⟨h.os, h.tape, h.output, Nat.le_trans hb h.size, fun b h1 _ => h.block b h1⟩
theorem BelowX.to_other {base base' mb mb' : Nat} {W w : World} (h : BelowX base' mb' W w) (hb : base ≤ base') (hm : base ≤ mb') : BelowX base mb W w :=
  ⟨h.os, h.tape, h.output, Nat.le_trans hb h.size, fun b h1 _ => h.block b (by omega) (by omega)⟩
theorem BelowX.growE {base mb : Nat} {W w : World} (h : BelowX base mb W w) (E : Array Obj) (d : Nat) : BelowX base mb W (extW w E d) :=
  h.trans (BelowX.of_below h.size (bExtW (Below.refl base w) h.size))
theorem BelowX.ints {base mb : Nat} {W w : World} {a : Option Addr} {n : Nat} {zs : List Int} (h : BelowX base mb W w) (hi : IsInts W a n zs) (hW : ∀ b o, a = some ⟨b, o, none⟩ → b < base ∧ b ≠ mb) : IsInts w a n zs := by
  refine ⟨hi.1, fun hn => ?_⟩
  obtain ⟨b, o, h1, h2, h3⟩ := hi.2 hn
  obtain ⟨h4, h5⟩ := hW b o h1
  exact ⟨b, o, h1, Nat.lt_of_lt_of_le h4 h.size, fun j hj => (World.cell?_of_block (h.block b h4 h5)).trans (h3 j hj)⟩
theorem ints_of_own {w : World} {base n c gb : Nat} {l : List Int} (h : w.ownsRow base 3 1 (.slice (some ⟨gb, 0, none⟩) n c) n (l.map i64v)) : IsInts w (some ⟨gb, 0, none⟩) n l := by
  have hl : l.length = n := by have := (own_parts h).1; simpa using this
  refine ⟨hl, fun _ => ⟨gb, 0, rfl, own_lt h, fun j hj => ?_⟩⟩
  rw [Nat.zero_add, (own_cell h hj).1, List.getElem?_map, List.getElem?_eq_getElem (by omega)]
  simp [List.getD, hl, hj, i64v]
theorem slice_pop (tg m cp : Nat) (h : m ≤ cp) (w : World) : (Instr.slice 37 (.slice (some ⟨tg, 0, none⟩) (m + 1) cp) none (some (.int .i64 (m))) none).run Try.prog w = .ok (.slice (some ⟨tg, 0, none⟩) m cp) w := by
  have h1 := run_slice_h (P := Try.prog) w 37 (some ⟨tg, 0, none⟩) (m + 1) cp (by kernel_rfl) .i64 (m : Int) (by omega) (by omega)
  rw [h1]
  have hsz : (sizeOf (Try.prog.elem 37)).run Try.prog w = .ok 1 w := by go_simp
  rw [hsz]
  have e2 : ((m : Int)).toNat = m := by omega
  rw [e2]
  simp [Result.andThen, sliced, Addr.add_lit]
set_option maxRecDepth 100000 in
set_option maxHeartbeats 8000000 in
theorem try_any (W H N pb tb cap base : Nat) (ca : Option Addr) (cn cc : Nat) (cs p : List Int) (s k : Nat) (w : World)
    (hr : w.rowIs pb 97 5 (picF W H ca cn cc (.slice (some ⟨tb, 0, none⟩) N cap))) (hI : IsInts w ca cn cs) (hcn : cn = W * H) (hW : W ≤ 64) (hH : H ≤ 64) (hN : N = W + H) (hN0 : 0 < N)
    (ht : w.ownsRow base 3 1 (.slice (some ⟨tb, 0, none⟩) N cap) N (p.map i64v)) (hpb : pb < base) (hca : ∀ b o, ca = some ⟨b, o, none⟩ → b < base ∧ b ≠ pb)
    (hCR : CR cs) (hp : p.length = N) (hg : Ef.Good p) (hcl : Ef.Closed W cs p) (hs : s < N) (h0 : g p s < 0) (hk : k < 62) :
    Calls Try.prog 66 #[.pointer (some ⟨pb, 0, none⟩), .int .i64 (s), .int .i64 (k)] w (TryPost W H N pb ca cn cc cs base (p.set s k) p w) := by
  have hbw : base ≤ w.heap.size := by have := own_parts ht; have := own_lt ht; omega
  have htb : base ≤ tb := (own_parts ht).2.1
  have hcap : N ≤ cap := (own_parts ht).2.2.1
  have hCL : cs.length = W * (N - W) := by rw [hI.1, hcn, hN, Nat.add_sub_cancel_left]
  have HINV := Lib.hid (Inv.start hCR hCL (by omega) hp hg hcl hs h0 (by omega) (by omega : (k : Int) < 62))
  have HAT : Hid (∀ w a b, w.rowIs pb 97 5 (picF W H ca cn cc (.slice (some ⟨tb, 0, none⟩) N cap)) → IsInts w ca cn cs → a < N → b < N → Calls Try.prog 81 #[.pointer (some ⟨pb, 0, none⟩), .int .i64 (a), .int .i64 (b)] w fun e w' => e = .returned (atV (crs W cs a b)) ∧ Below w.heap.size w w') := Lib.hid fun w a b h1 h2 h3 h4 => at_any W H pb ca cn cc _ cs a b w h1 h2 hcn hW hH (by omega) (by omega)
  have HCLO : Hid (∀ w, w.ownsRow base 3 1 (.slice (some ⟨tb, 0, none⟩) N cap) N (p.map i64v) → Calls Try.prog 67 #[.slice (some ⟨tb, 0, none⟩) N cap] w (IPost p w)) := Lib.hid fun w h => clone_any _ N cap p w (ints_of_own h) (by omega)
  have HT := Lib.hid ht; have HR := Lib.hid hr; have HI := Lib.hid hI; have HCR := Lib.hid hCR; have HCLL := Lib.hid hCL
  have HP := Lib.hid hp; have HCA := Lib.hid hca; have HN := Lib.hid hN; have HCN := Lib.hid hcn
  have hN128 : N ≤ 128 := by omega
  clear ht hr hI hCR hCL hp hg hcl h0 hca hcn hN
  go_enter Try.func66, Try.ntmps66
  have c4 : w.cell? ⟨pb, 4, none⟩ = some (.slice (some ⟨tb, 0, none⟩) N cap) := HR.out.cell (i := 4) (by omega)
  have lp : LtW pb w := HR.out.lt
  go_wp2_with fail
  refine (HCLO.out _ HT.out).mono ?_
  rintro r w1 ⟨A7, C7, rfl, ho7, hb7⟩
  rw [HP.out] at ho7 ⊢
  obtain ⟨g7, c7, e7⟩ := own_some ho7 hN0
  injection e7 with e7 _ e8
  subst e7 e8
  have hg7 : w.heap.size ≤ g7 := (own_parts ho7).2.1
  have hT1 := own_keep HT.out (hb7.block tb (own_lt HT.out))
  have hR1 := rowBelow HR.out hb7 HR.out.lt
  have c4 : w1.cell? ⟨pb, 4, none⟩ = some (.slice (some ⟨tb, 0, none⟩) N cap) := hR1.cell (i := 4) (by omega)
  have t0 : w1.cell? ⟨tb, s, none⟩ = some (.int .i64 (g p s)) := by rw [(own_cell hT1 hs).1, g_at (by rw [HP.out]; exact hs)]
  have f0 := (own_cell hT1 hs).2
  have lp : LtW pb w1 := hR1.lt
  have lt : LtW tb w1 := own_lt hT1
  have htw : tb < w.heap.size := own_lt HT.out
  have hX1 : BelowX base pb w w1 := BelowX.of_below hbw (hb7.mono hbw)
  have hT2 : (w1.setCell ⟨tb, s, none⟩ (.int .i64 (k))).ownsRow base 3 1 (.slice (some ⟨tb, 0, none⟩) N cap) N ((p.set s k).map i64v) := by rw [map_set]; exact own_set hT1 hs
  have hR2 := hR1.setOther (a := ⟨tb, s, none⟩) (by show pb ≠ tb; omega) (.int .i64 (k))
  have hX2 : BelowX base pb w (w1.setCell ⟨tb, s, none⟩ (.int .i64 (k))) := hX1.trans (BelowX.of_below hX1.size ((Below.refl base w1).setCell (by show base ≤ tb; omega) _))
  have hI2 := (BelowX.refl (base := w1.heap.size) (mb := tb) (W := w1) (Nat.le_refl _)).set s (.int .i64 (k)) |>.ints (HI.out.below hb7) (fun b o e => by
    obtain ⟨h1, h2⟩ := HCA.out b o e
    exact ⟨by have := hb7.size; omega, by omega⟩)
  have hO2 := own_other (a := ⟨tb, s, none⟩) (u := .int .i64 (k)) ho7 (by show g7 ≠ tb; omega)
  have hsz2 : (w1.setCell ⟨tb, s, none⟩ (.int .i64 (k))).heap.size = w1.heap.size := World.size_setCell _ _ _
  have hsz1 := hb7.size
  have hg7s : g7 < w1.heap.size := own_lt ho7
  clear ho7 hT1 hR1 hX1 hb7
  go_wp2_with fail
  clear c4 t0 f0 lp lt
  generalize w1.setCell ⟨tb, s, none⟩ (.int .i64 (k)) = W2 at *
  obtain ⟨base2, hb2⟩ : ∃ b, w1.heap.size = b := ⟨_, rfl⟩
  rw [hb2] at hsz2 hsz1 hg7s ⊢
  clear hb2
  have HT2 := Lib.hid hT2; have HR2 := Lib.hid hR2; have HX2 := Lib.hid hX2; have HI2 := Lib.hid hI2; have HO2 := Lib.hid hO2; have HSZ := Lib.hid hsz2
  have hON : (W2.alloc (.cells #[.int .i64 (s)] 3)).ownsRow base2 3 1 (.slice (some ⟨base2, 0, none⟩) 1 1) 1 (natS [s]) := by
    have := owns_new (w := W2) (base := base2) (e := 3) (u := .int .i64 (s)) (by omega)
    rw [hsz2] at this
    exact this
  have hTN := own_keep hT2 (((Below.refl W2.heap.size W2).alloc (Nat.le_refl _) (.cells #[.int .i64 (s)] 3)).block tb (own_lt hT2))
  have hXN : BelowX base2 tb W2 (W2.alloc (.cells #[.int .i64 (s)] 3)) := BelowX.of_below (by omega) ((Below.refl base2 W2).alloc (by omega) _)
  have HON := Lib.hid hON; have HTN := Lib.hid hTN; have HXN := Lib.hid hXN
  generalize W2.alloc (.cells #[.int .i64 (s)] 3) = W3 at *
  have hcl := cnt_le (p.set s k) N
  clear hT2 hR2 hX2 hI2 hO2 hON hTN hXN hsz2 HT HR
  go_loopw [8] (fun tv wr => ∃ (n : Nat) (T : List Nat) (p' : List Int) (A : Option Addr) (cp : Nat), tv = .slice A n cp ∧ T.length = n ∧ wr.ownsRow base2 3 1 (.slice A n cp) n (natS T) ∧ wr.ownsRow base 3 1 (.slice (some ⟨tb, 0, none⟩) N cap) N (p'.map i64v) ∧ BelowX base2 tb W2 wr ∧ Ef.Inv W cs N (p.set s k) p' T ∧ 2 * cnt p' N + n ≤ 1000) (fun tv wr => 2 * wcnt wr tb N + lenOf tv)
  case atStart => exact ⟨1, [s], p.set s k, _, _, rfl, rfl, HON.out, HTN.out, HXN.out, HINV.out, by omega⟩
  case round =>
    obtain ⟨n, T, p', A, cp, rfl, hTl, hown, htd, hbx, hinv, hbd⟩ := hrel
    have HW1 := Lib.hid (wcnt_eq hinv.len htd)
    have hRr := hbx.rowIs HR2.out (by omega) (by omega)
    have HRr := Lib.hid hRr
    have c4 : wr.cell? ⟨pb, 4, none⟩ = some (.slice (some ⟨tb, 0, none⟩) N cap) := hRr.cell (i := 4) (by omega)
    have lp : LtW pb wr := hRr.lt
    have HO := Lib.hid hown; have HTD := Lib.hid htd; have HX := Lib.hid hbx; have HV := Lib.hid hinv; have HTL := Lib.hid hTl
    clear hRr hown htd hbx hinv hTl
    cases n with
    | zero =>
      have HT0 : Hid (T = []) := Lib.hid (List.length_eq_zero_iff.1 HTL.out)
      go_wp2
      go_ret
      unfold TryPost
      refine ⟨tb, cap, true, p', rfl, HRr.out, HTD.out, HX2.out.trans (HX.out.to_other (by omega) htb), fun _ => ?_, fun h => by cases h⟩
      have := HV.out
      rw [HT0.out] at this
      exact this.finish
    | succ m =>
      obtain ⟨T', a, hTa⟩ : ∃ T' a, T = T' ++ [a] := by
        rcases List.eq_nil_or_concat T with h | ⟨T', a, h⟩
        · have := HTL.out; rw [h] at this; cases this
        · exact ⟨T', a, by rw [h, List.concat_eq_append]⟩
      have hTl' : T'.length = m := by have := HTL.out; rw [hTa] at this; simpa using this
      have hA := (by have := HV.out; rw [hTa] at this; exact this.pop : Ef.InvA W cs N (p.set s k) p' T' a 0)
      obtain ⟨tg, cg, eg⟩ := own_some HO.out (by omega)
      injection eg with e1 _ e2
      subst e1 e2
      have hpop := own_pop (xs := natS T') (x := i64v (a : Int)) (by
        have := HO.out
        rw [hTa] at this
        simpa [natS] using this)
      have c5 : wr.cell? ⟨tg, m, none⟩ = some (.int .i64 (a)) := hpop.2
      have lg : LtW tg wr := own_lt hpop.1
      have hmc : m + 1 ≤ cp := (own_parts HO.out).2.2.1
      have hsl : ∀ w, (Instr.slice 37 (.slice (some ⟨tg, 0, none⟩) (m + 1) cp) none (some (.int .i64 (m))) none).run Try.prog w = .ok (.slice (some ⟨tg, 0, none⟩) m cp) w := slice_pop tg m cp (by omega)
      have HO' := Lib.hid hpop.1; have HA := Lib.hid hA; have HTL' := Lib.hid hTl'
      clear hTa hTl' hA hpop HO HTL HV
      go_wp2_with fail
      obtain ⟨M, hM⟩ : ∃ M, 2 * cnt p' N + m = M := ⟨_, rfl⟩
      have HM := Lib.hid hM
      have haN : a < N := HA.out.lt
      have hM1 : M ≤ 1000 := by omega
      clear c4 c5 lp lg hsl hM
      go_loopw [8, 46] (fun tv xv w2 => ∃ (b n2 : Nat) (T2 : List Nat) (p2 : List Int) (A2 : Option Addr) (cp2 : Nat), b ≤ N ∧ xv = .int .i64 b ∧ tv = .slice A2 n2 cp2 ∧ T2.length = n2 ∧ w2.ownsRow base2 3 1 (.slice A2 n2 cp2) n2 (natS T2) ∧ w2.ownsRow base 3 1 (.slice (some ⟨tb, 0, none⟩) N cap) N (p2.map i64v) ∧ BelowX base2 tb W2 w2 ∧ Ef.InvA W cs N (p.set s k) p2 T2 a b ∧ 2 * cnt p2 N + n2 ≤ M) (fun _ xv _ => N - (intOf xv).toNat)
      case atStart => exact ⟨0, m, T', p', _, cp, by omega, rfl, rfl, HTL'.out, HO'.out, HTD.out, HX.out, HA.out, Nat.le_of_eq HM.out⟩
      case round =>
        clear HO' HA HTL' HTD HX HRr
        obtain ⟨b, n2, T2, p2, A2, cp2, hb, rfl, rfl, hTl, hown, htd, hbx, hinv, hm2⟩ := hrel
        have hRr := hbx.rowIs HR2.out (by omega) (by omega)
        have HRr := Lib.hid hRr
        have HO := Lib.hid hown; have HTD := Lib.hid htd; have HX := Lib.hid hbx; have HA := Lib.hid hinv; have HTL := Lib.hid hTl; have HM2 := Lib.hid hm2
        have hn2 : n2 ≤ M := by omega
        by_cases hbN : b < N
        · have HIr := Lib.hid (hbx.ints HI2.out (fun b o e => by
            obtain ⟨h1, h2⟩ := HCA.out b o e
            exact ⟨by omega, by omega⟩))
          have HAC := Lib.hid (HAT.out wr a b hRr HIr.out haN hbN)
          have ta : wr.cell? ⟨tb, a, none⟩ = some (.int .i64 (g p2 a)) := by rw [(own_cell htd haN).1, g_at (by rw [hinv.len]; exact haN)]
          have tB : wr.cell? ⟨tb, b, none⟩ = some (.int .i64 (g p2 b)) := by rw [(own_cell htd hbN).1, g_at (by rw [hinv.len]; exact hbN)]
          have fB := (own_cell htd hbN).2
          have c4 : wr.cell? ⟨pb, 4, none⟩ = some (.slice (some ⟨tb, 0, none⟩) N cap) := hRr.cell (i := 4) (by omega)
          have f4 := hRr.frozen 4
          have lp : LtW pb wr := hRr.lt
          have lt : LtW tb wr := own_lt htd
          clear hRr hown htd hbx hinv hTl hm2
          obtain ⟨ga, hga⟩ : ∃ ga, g p2 a = ga := ⟨_, rfl⟩
          obtain ⟨gb, hgb⟩ : ∃ gb, g p2 b = gb := ⟨_, rfl⟩
          rw [hga] at ta
          rw [hgb] at tB
          have HGA := Lib.hid hga; have HGB := Lib.hid hgb
          clear hga hgb
          cases hcr : crs W cs a b with
          | none =>
            rw [hcr] at HAC
            simp only [atV] at HAC
            have HA2 := Lib.hid (HA.out.skip (fun v hv => by rw [hcr] at hv; cases hv))
            clear hcr
            go_wp2_with fail
            refine HAC.out.mono ?_
            rintro r w5 ⟨rfl, hb5⟩
            obtain ⟨E5, d5, rfl⟩ := bExt hb5
            have hbx5 : Below wr.heap.size wr (extW wr E5 d5) := bExtW (Below.refl _ _) (Nat.le_refl _)
            have HOx := Lib.hid (ownBelow HO.out hbx5)
            have HTx := Lib.hid (own_keep HTD.out (hbx5.block tb lt))
            have HXx := Lib.hid (HX.out.growE E5 d5)
            have HRx := Lib.hid (rowBelow HRr.out hbx5 HRr.out.lt)
            have tax := bCs hbx5 ta
            have tBx := bCs hbx5 tB
            have fBx := (hbx5.frozen (p := ⟨tb, b, none⟩) lt).trans fB
            have c4x := bCs hbx5 c4
            have f4x := (hbx5.frozen (p := ⟨pb, 4, none⟩) lp).trans f4
            have lpx : LtW pb (extW wr E5 d5) := Nat.lt_of_lt_of_le lp hbx5.size
            have ltx : LtW tb (extW wr E5 d5) := Nat.lt_of_lt_of_le lt hbx5.size
            clear hb5 hbx5 ta tB fB c4 f4 lp lt HRr HIr HAC
            generalize extW wr E5 d5 = wx at *
            go_wp2
            go_roundw
            case rel => exact ⟨b + 1, n2, T2, p2, A2, cp2, by omega, by go_num, rfl, HTL.out, HOx.out, HTx.out, HXx.out, HA2.out, HM2.out⟩
            case measure => simp [intOf]; omega
          | some v =>
            rw [hcr] at HAC
            simp only [atV] at HAC
            have HC := Lib.hid hcr
            clear hcr
            by_cases e1 : v = ga
            · have t1 : (v == ga) = true := by simpa using e1
              have HA2 := Lib.hid (HA.out.skip (fun u hu => by rw [HC.out] at hu; injection hu with hu; left; rw [HGA.out, ← hu, e1]))
              clear e1
              go_wp2_with fail
              refine HAC.out.mono ?_
              rintro r w5 ⟨rfl, hb5⟩
              obtain ⟨E5, d5, rfl⟩ := bExt hb5
              have hbx5 : Below wr.heap.size wr (extW wr E5 d5) := bExtW (Below.refl _ _) (Nat.le_refl _)
              have HOx := Lib.hid (ownBelow HO.out hbx5)
              have HTx := Lib.hid (own_keep HTD.out (hbx5.block tb lt))
              have HXx := Lib.hid (HX.out.growE E5 d5)
              have HRx := Lib.hid (rowBelow HRr.out hbx5 HRr.out.lt)
              have tax := bCs hbx5 ta
              have tBx := bCs hbx5 tB
              have fBx := (hbx5.frozen (p := ⟨tb, b, none⟩) lt).trans fB
              have c4x := bCs hbx5 c4
              have f4x := (hbx5.frozen (p := ⟨pb, 4, none⟩) lp).trans f4
              have lpx : LtW pb (extW wr E5 d5) := Nat.lt_of_lt_of_le lp hbx5.size
              have ltx : LtW tb (extW wr E5 d5) := Nat.lt_of_lt_of_le lt hbx5.size
              clear hb5 hbx5 ta tB fB c4 f4 lp lt HRr HIr HAC
              generalize extW wr E5 d5 = wx at *
              go_wp2
              go_roundw
              case rel => exact ⟨b + 1, n2, T2, p2, A2, cp2, by omega, by go_num, rfl, HTL.out, HOx.out, HTx.out, HXx.out, HA2.out, HM2.out⟩
              case measure => simp [intOf]; omega
            · have t1 : (v == ga) = false := by simpa using e1
              by_cases e2 : v = gb
              · have t2 : (v == gb) = true := by simpa using e2
                have HA2 := Lib.hid (HA.out.skip (fun u hu => by rw [HC.out] at hu; injection hu with hu; right; rw [HGB.out, ← hu, e2]))
                clear e1 e2
                go_wp2_with fail
                refine HAC.out.mono ?_
                rintro r w5 ⟨rfl, hb5⟩
                obtain ⟨E5, d5, rfl⟩ := bExt hb5
                have hbx5 : Below wr.heap.size wr (extW wr E5 d5) := bExtW (Below.refl _ _) (Nat.le_refl _)
                have HOx := Lib.hid (ownBelow HO.out hbx5)
                have HTx := Lib.hid (own_keep HTD.out (hbx5.block tb lt))
                have HXx := Lib.hid (HX.out.growE E5 d5)
                have HRx := Lib.hid (rowBelow HRr.out hbx5 HRr.out.lt)
                have tax := bCs hbx5 ta
                have tBx := bCs hbx5 tB
                have fBx := (hbx5.frozen (p := ⟨tb, b, none⟩) lt).trans fB
                have c4x := bCs hbx5 c4
                have f4x := (hbx5.frozen (p := ⟨pb, 4, none⟩) lp).trans f4
                have lpx : LtW pb (extW wr E5 d5) := Nat.lt_of_lt_of_le lp hbx5.size
                have ltx : LtW tb (extW wr E5 d5) := Nat.lt_of_lt_of_le lt hbx5.size
                clear hb5 hbx5 ta tB fB c4 f4 lp lt HRr HIr HAC
                generalize extW wr E5 d5 = wx at *
                go_wp2
                go_roundw
                case rel => exact ⟨b + 1, n2, T2, p2, A2, cp2, by omega, by go_num, rfl, HTL.out, HOx.out, HTx.out, HXx.out, HA2.out, HM2.out⟩
                case measure => simp [intOf]; omega
              · have t2 : (v == gb) = false := by simpa using e2
                by_cases e3 : 0 ≤ gb
                · have t3 : decide (0 ≤ gb) = true := by simpa using e3
                  have HNV := Lib.hid (HA.out.conflict hbN HC.out (by rw [HGA.out]; exact fun e => e1 e.symm) (by rw [HGB.out]; exact fun e => e2 e.symm) (by rw [HGB.out]; exact e3))
                  clear e1 e2
                  go_wp2_with fail
                  refine HAC.out.mono ?_
                  rintro r w5 ⟨rfl, hb5⟩
                  obtain ⟨E5, d5, rfl⟩ := bExt hb5
                  have hbx5 : Below wr.heap.size wr (extW wr E5 d5) := bExtW (Below.refl _ _) (Nat.le_refl _)
                  have HOx := Lib.hid (ownBelow HO.out hbx5)
                  have HTx := Lib.hid (own_keep HTD.out (hbx5.block tb lt))
                  have HXx := Lib.hid (HX.out.growE E5 d5)
                  have HRx := Lib.hid (rowBelow HRr.out hbx5 HRr.out.lt)
                  have tax := bCs hbx5 ta
                  have tBx := bCs hbx5 tB
                  have fBx := (hbx5.frozen (p := ⟨tb, b, none⟩) lt).trans fB
                  have c4x := bCs hbx5 c4
                  have f4x := (hbx5.frozen (p := ⟨pb, 4, none⟩) lp).trans f4
                  have lpx : LtW pb (extW wr E5 d5) := Nat.lt_of_lt_of_le lp hbx5.size
                  have ltx : LtW tb (extW wr E5 d5) := Nat.lt_of_lt_of_le lt hbx5.size
                  clear hb5 hbx5 ta tB fB c4 f4 lp lt HRr HIr HAC
                  generalize extW wr E5 d5 = wx at *
                  go_wp2
                  go_ret
                  unfold TryPost
                  refine ⟨g7, C7, false, p, rfl, (HRx.out.set 4 _).congr fun i hi => ?_, own_other (own_base (own_keep HO2.out (HXx.out.block g7 hg7s (by omega))) (by omega)) (by show g7 ≠ pb; omega), (HX2.out.trans (HXx.out.to_other (by omega) htb)).set 4 _, (fun h => by cases h), fun _ => ⟨rfl, HNV.out⟩⟩
                  have hi5 : i = 0 ∨ i = 1 ∨ i = 2 ∨ i = 3 ∨ i = 4 := by omega
                  rcases hi5 with rfl | rfl | rfl | rfl | rfl <;> rfl
                · have t3 : decide (0 ≤ gb) = false := by simpa using e3
                  have e3' : gb < 0 := by omega
                  go_wp2_with fail
                  refine HAC.out.mono ?_
                  rintro r w5 ⟨rfl, hb5⟩
                  obtain ⟨E5, d5, rfl⟩ := bExt hb5
                  have hbx5 : Below wr.heap.size wr (extW wr E5 d5) := bExtW (Below.refl _ _) (Nat.le_refl _)
                  have HOx := Lib.hid (ownBelow HO.out hbx5)
                  have HTx := Lib.hid (own_keep HTD.out (hbx5.block tb lt))
                  have HXx := Lib.hid (HX.out.growE E5 d5)
                  have HRx := Lib.hid (rowBelow HRr.out hbx5 HRr.out.lt)
                  have tax := bCs hbx5 ta
                  have tBx := bCs hbx5 tB
                  have fBx := (hbx5.frozen (p := ⟨tb, b, none⟩) lt).trans fB
                  have c4x := bCs hbx5 c4
                  have f4x := (hbx5.frozen (p := ⟨pb, 4, none⟩) lp).trans f4
                  have lpx : LtW pb (extW wr E5 d5) := Nat.lt_of_lt_of_le lp hbx5.size
                  have ltx : LtW tb (extW wr E5 d5) := Nat.lt_of_lt_of_le lt hbx5.size
                  clear hb5 hbx5 ta tB fB c4 f4 lp lt HRr HIr HAC
                  generalize extW wr E5 d5 = wx at *
                  have HCR2 := Lib.hid (crs_range HCR.out HCLL.out (by have := HN.out; omega) haN hbN HC.out)
                  have HPU := Lib.hid (HA.out.push HCR.out HCLL.out (by have := HN.out; omega) hbN HC.out (by rw [HGA.out]; exact fun e => e1 e.symm) (by rw [HGB.out]; exact e3'))
                  have HCN2 := Lib.hid (cnt_set hbN HA.out.len (by rw [HGB.out]; exact e3') HCR2.out.1)
                  have HO6 := Lib.hid (ownBelow (ownsRow_setCell_below HOx.out (a := ⟨tb, b, none⟩) (by show tb < base2; omega) (.int .i64 (v))) ((Below.refl _ _).alloc (Nat.le_refl _) (.cells #[.int .i64 (b)] 3)))
                  have hs6 : (wx.setCell ⟨tb, b, none⟩ (.int .i64 (v))).heap.size = wx.heap.size := World.size_setCell _ _ _
                  have HB6 : Hid (((wx.setCell ⟨tb, b, none⟩ (.int .i64 (v))).alloc (.cells #[.int .i64 (b)] 3)).cell? ⟨wx.heap.size, 0, none⟩ = some (.int .i64 (b))) := Lib.hid (by
                    rw [← hs6, World.cell?_alloc_new]; rfl)
                  have HT6 : Hid ((wx.setCell ⟨tb, b, none⟩ (.int .i64 (v))).ownsRow base 3 1 (.slice (some ⟨tb, 0, none⟩) N cap) N ((p2.set b v).map i64v)) := Lib.hid (by rw [map_set]; exact own_set HTx.out hbN)
                  have HT7 := Lib.hid (own_keep HT6.out (((Below.refl _ _).alloc (Nat.le_refl _) (.cells #[.int .i64 (b)] 3)).block tb (own_lt HT6.out)))
                  have HX6 := Lib.hid ((HXx.out.set b (.int .i64 (v))).trans (BelowX.of_below (by rw [hs6]; exact HXx.out.size) ((Below.refl base2 _).alloc (by rw [hs6]; exact HXx.out.size) (.cells #[.int .i64 (b)] 3))))
                  have hsx := HXx.out.size
                  have hs7 : base2 ≤ ((wx.setCell ⟨tb, b, none⟩ (.int .i64 (v))).alloc (.cells #[.int .i64 (b)] 3)).heap.size := by simp; omega
                  clear hs6 HT6
                  go_wp2_with (at_builtin; refine wpAppK okI8 rfl (.tmp 99) (.tmp 101) rfl base2 _ n2 (natS T2) (.int .i64 (b)) wx.heap.size rfl HO6.out rfl HB6.out rfl (by omega) (by omega) hs7 ?_)
                  intro v' w2 hown2 hg2 hat2
                  have hb2 := belowGrown hg2 hs7 (fun k hk => (HO6.out.lt k hk).1)
                  have HT8 := Lib.hid (own_keep HT7.out (hb2.block tb (by omega)))
                  have HX8 := Lib.hid (HX6.out.trans (BelowX.of_below hs7 hb2))
                  obtain ⟨A', cp', rfl⟩ := own_form hown2
                  have HO8 := Lib.hid hown2
                  clear hown2 hg2 hat2 hb2
                  go_wp2
                  go_roundw
                  case rel => exact ⟨b + 1, n2 + 1, T2 ++ [b], p2.set b v, A', cp', by omega, by go_num, rfl, by rw [List.length_append, HTL.out]; rfl, by rw [natS, List.map_append]; exact HO8.out, HT8.out, HX8.out, HPU.out, by have := HM2.out; have := HCN2.out; omega⟩
                  case measure => simp [intOf]; omega
        · obtain rfl : b = N := by omega
          have HA2 := Lib.hid HA.out.done
          have HWN := Lib.hid (wcnt_eq HA2.out.len HTD.out)
          clear hRr hown htd hbx hinv hTl hm2
          go_wp2
          go_roundw
          case rel => exact ⟨n2, T2, p2, A2, cp2, rfl, HTL.out, HO.out, HTD.out, HX.out, HA2.out, by have := HM2.out; have := HM.out; omega⟩
          case measure =>
            show 2 * wcnt _ tb b + n2 < 2 * wcnt _ tb b + (m + 1)
            rw [HWN.out, HW1.out]
            have := HM2.out; have := HM.out
            omega
end Go.Proofs.Yticplgjpflaelaa
