/- Lemmas and contracts of functions (what each call returns, and that it changes nothing that was there) that the proof of a law of this seat uses; each lemma states its own conditions. -/
import Derived.Test.YtnjheiiohfhckaaMgW
namespace Go.Proofs.Ytnjheiiohfhckaa
open Go.RowKit
open Mg
theorem jobCells_snoc (l : List (Int × Int)) (x y : Int) : jobCells (l ++ [(x,y)]) = jobCells l ++ [.int .i64 (x), .int .i64 (y)] := by simp [jobCells]
theorem okInts : ElemOk 22 3 1 8 (.int .i64 0) := ⟨Try.underlying22, by kernel_rfl, rfl, by omega⟩
def PlanPost (zs : List Int) (m : Nat) (w : World) (r : Ending) (w' : World) : Prop :=
  ∃ v, r = .returned (.tuple #[v, .int .i64 ((planTo zs m zs.length).last), .int .i64 0]) ∧ w'.ownsRow w.heap.size 29 2 v zs.length (jobCells (planTo zs m zs.length).out) ∧ Below w.heap.size w w'
set_option maxRecDepth 100000 in
set_option maxHeartbeats 8000000 in
theorem Plan_ok (a : Option Addr) (n c : Nat) (zs : List Int) (m : Nat) (w : World) (hi : IsInts w a n zs) (he : wrongM n m = 0) (hr : inR zs = true) :
    Calls Try.prog 10 #[.slice a n c, .int .i64 (m)] w (PlanPost zs m w) := by
  obtain ⟨hl, hc⟩ := hi
  have hnm : n ≤ 64 ∧ 1 ≤ m ∧ m ≤ 16 := by unfold wrongM at he; split at he <;> omega
  obtain ⟨hn, hm1, hm2⟩ := hnm
  have hz : ∀ j, j < zs.length → 0 ≤ zs.getD j 0 ∧ zs.getD j 0 ≤ 1048576 := by
    intro j hj
    have := List.all_eq_true.1 hr (zs.getD j 0) (by simp [List.getD, hj])
    simpa using this
  have HE := Lib.hid he
  have HL := Lib.hid hl
  have HZ := Lib.hid hz
  have HC := Lib.hid hc
  clear he hl hr hc hz
  have hmk := makeRow okInts rfl m (by omega) (by omega)
  go_enter Try.func10, Try.ntmps10
  go_wp2_with fail
  refine (wrong_any _ _ _).mono ?_
  rintro r w1 ⟨rfl, rfl⟩
  rw [HE.out]
  go_wp2_with fail
  go_loop [27] (fun i => ∃ k : Nat, k ≤ n ∧ i = .int .i64 k) (fun i => n - (intOf i).toNat)
  case atStart => exact ⟨0, Nat.zero_le _, rfl⟩
  case round =>
    obtain ⟨k, hk, rfl⟩ := hrel
    by_cases hlt : k < n
    · obtain ⟨b, o, rfl, hb, hc⟩ := HC.out (by omega)
      have c0 := hc k hlt
      obtain ⟨hz0, hz1⟩ := HZ.out k (by rw [HL.out]; exact hlt)
      clear hc
      obtain ⟨z, hz⟩ : ∃ z, z = zs.getD k 0 := ⟨_, rfl⟩
      rw [← hz] at c0 hz0 hz1
      clear hz
      go_wp2
      go_round
      case rel => exact ⟨k + 1, by omega, by go_num⟩
      case measure => simp [intOf]; omega
    · have hrow := World.rowIs_made w (.int .i64 0) m 3
      go_wp2_with fail
      obtain ⟨g, hg⟩ : ∃ g, g = w.heap.size := ⟨_, rfl⟩
      have hsz : (w.alloc (.cells (madeCells #[.int .i64 0] m) 3)).heap.size = g + 1 := by simp [hg]
      have hB0 : Below g w (w.alloc (.cells (madeCells #[.int .i64 0] m) 3)) := by rw [hg]; exact (Below.refl _ _).alloc (Nat.le_refl _) _
      rw [← hg] at hrow
      rw [← hg]
      have HC' := Lib.hid fun h => (HC.out h)
      have HG := Lib.hid hg
      clear hg hmk
      generalize w.alloc (.cells (madeCells #[.int .i64 0] m) 3) = W0 at *
      go_loopw [42, 11, 12] (fun i v last wr => ∃ k : Nat, k ≤ n ∧ i = .int .i64 k ∧ last = .int .i64 ((planTo zs m k).last) ∧ wr.ownsRow (g+1) 29 2 v k (jobCells (planTo zs m k).out) ∧ wr.rowIs g 3 m (fun j => .int .i64 ((planTo zs m k).fr.getD j 0)) ∧ Below g w wr ∧ g + 1 ≤ wr.heap.size) (fun i _ _ _ => n - (intOf i).toNat)
      case atStart =>
        refine ⟨0, Nat.zero_le _, rfl, rfl, World.ownsRow_nil _ _ _ _, hrow.congr ?_, hB0, by omega⟩
        intro i hi
        simp only [planTo, List.take_zero, List.foldl_nil]
        rw [List.getD_eq_getElem?_getD, List.getElem?_replicate, if_pos hi]; rfl
      case round =>
        clear hrow hsz hB0
        obtain ⟨k, hk, rfl, rfl, hown, hrow, hbel, hgl⟩ := hrel
        obtain ⟨hfb, hl0, hl1⟩ := planTo_bd zs m k (by rw [HL.out]; exact hk) HZ.out
        have hfl := planTo_fr_len zs m k
        by_cases hlt : k < n
        · obtain ⟨b, o, rfl, hb, hc⟩ := HC.out (by omega)
          have c0 : wr.cell? ⟨b, o + k, none⟩ = _ := (hbel.cell (p := ⟨b, o + k, none⟩) (by rw [HG.out]; exact hb)).trans (hc k hlt)
          obtain ⟨hz0, hz1⟩ := HZ.out k (by rw [HL.out]; exact hlt)
          have HS := Lib.hid (planTo_succ zs m k (by rw [HL.out]; exact hlt))
          clear hc hb
          obtain ⟨z, hz⟩ : ∃ z, z = zs.getD k 0 := ⟨_, rfl⟩
          rw [← hz] at c0 hz0 hz1 HS
          clear hz
          generalize planTo zs m k = S at *
          have hfr := hrow.frozen
          have hfc : ∀ i, i < m → wr.cell? ⟨g, i, none⟩ = some (.int .i64 (S.fr.getD i 0)) := fun i h => hrow.cell h
          have HR := Lib.hid hrow
          have HFL := Lib.hid hfl
          have HFB := Lib.hid hfb
          clear hrow hfl hfb
          have HO := Lib.hid hown
          clear hown
          go_wp2_with fail
          go_loop [15, 48] (fun best i => ∃ q : Nat, q ≤ m ∧ i = .int .i64 q ∧ best = .int .i64 (bestTo S.fr q : Nat)) (fun _ i => m - (intOf i).toNat)
          case atStart => exact ⟨0, Nat.zero_le _, rfl, rfl⟩
          case round =>
            obtain ⟨q, hq, rfl, rfl⟩ := hrel
            by_cases hqm : q < m
            · have hbl : bestTo S.fr q < m := by
                rcases Nat.eq_zero_or_pos q with h | h
                · subst h; simp [bestTo]; omega
                · have := bestTo_lt S.fr q h; omega
              have cq := hfc q hqm
              have cb := hfc _ hbl
              have HBS : Hid (bestTo S.fr (q+1) = if S.fr.getD q 0 < S.fr.getD (bestTo S.fr q) 0 then q else bestTo S.fr q) := Lib.hid rfl
              clear hfc hfr
              generalize bestTo S.fr q = bq at *
              generalize S.fr.getD q 0 = tq at *
              generalize S.fr.getD bq 0 = tb at *
              by_cases hlt2 : tq < tb
              · go_wp2
                go_round
                case rel => exact ⟨q + 1, by omega, by go_num, by rw [HBS.out, if_pos hlt2]⟩
                case measure => simp [intOf]; omega
              · go_wp2
                go_round
                case rel => exact ⟨q + 1, by omega, by go_num, by rw [HBS.out, if_neg hlt2]⟩
                case measure => simp [intOf]; omega
            · have hqe : q = m := by omega
              subst hqe
              have hbl := bestTo_lt S.fr q (by omega)
              have cb := hfc _ hbl
              have hfrb := hfr (bestTo S.fr q)
              obtain ⟨f0, f1⟩ := HFB.out (bestTo S.fr q)
              have HPS : Hid (pstep S z = { fr := S.fr.set (bestTo S.fr q) (S.fr.getD (bestTo S.fr q) 0 + z), out := S.out ++ [(((bestTo S.fr q : Nat) : Int), S.fr.getD (bestTo S.fr q) 0)], last := if S.fr.getD (bestTo S.fr q) 0 + z > S.last then S.fr.getD (bestTo S.fr q) 0 + z else S.last }) := by
                show pstep S z = _
                unfold pstep; rw [HFL.out]
              clear hfc hfr
              generalize bestTo S.fr q = bq at *
              obtain ⟨f, hf⟩ : ∃ f, f = S.fr.getD bq 0 := ⟨_, rfl⟩
              rw [← hf] at cb f0 f1 HPS
              clear hf
              go_wp2_with (at_builtin; refine wpApp okJobs rfl (.tmp 61) (.tmp 68) rfl (g+1) _ k _ #[.int .i64 bq, .int .i64 f] rfl HO.out rfl rfl ?_ (by omega) (by omega) hgl ?_)
              · exact ⟨rfl, rfl⟩
              intro v' w1 hown1 hb1
              have cb1 : w1.cell? ⟨g, bq, none⟩ = _ := (hb1.cell (p := ⟨g, bq, none⟩) (by simp)).trans cb
              have hfrb1 : w1.frozen? ⟨g, bq, none⟩ = _ := (hb1.frozen (p := ⟨g, bq, none⟩) (by simp)).trans hfrb
              have hrow1 := (rowBelow HR.out hb1 (by omega)).set bq (.int .i64 (f + z))
              have hown2 := ownsRow_setCell_below hown1 (a := ⟨g, bq, none⟩) (by simp) (.int .i64 (f + z))
              have hb2 : Below g w (w1.setCell ⟨g, bq, none⟩ (.int .i64 (f + z))) := (hbel.trans (hb1.mono (by omega))).setCell (by simp) _
              have hz2 := hb1.size
              have hl2 : g + 1 ≤ (w1.setCell ⟨g, bq, none⟩ (.int .i64 (f + z))).heap.size := by rw [World.size_setCell]; omega
              have HR1 : Hid ((w1.setCell ⟨g, bq, none⟩ (.int .i64 (f + z))).rowIs g 3 q (fun j => .int .i64 ((planTo zs q (k+1)).fr.getD j 0))) := by
                refine Lib.hid (hrow1.congr ?_)
                intro j hj
                rw [HS.out, HPS.out]
                show _ = Value.int .i64 ((S.fr.set bq (f + z)).getD j 0)
                rw [getD_set _ _ _ _ (by rw [HFL.out]; exact hbl)]
                split <;> rfl
              have HO1 : Hid ((w1.setCell ⟨g, bq, none⟩ (.int .i64 (f + z))).ownsRow (g+1) 29 2 v' (k+1) (jobCells (planTo zs q (k+1)).out)) := by
                rw [HS.out, HPS.out]
                show Hid (World.ownsRow _ _ _ _ _ _ (jobCells (S.out ++ [((bq : Int), f)])))
                rw [jobCells_snoc]
                exact Lib.hid hown2
              have HLa : Hid ((planTo zs q (k+1)).last = if f + z > S.last then f + z else S.last) := by
                rw [HS.out, HPS.out]; exact Lib.hid rfl
              have HB2 := Lib.hid hb2
              have HL2 := Lib.hid hl2
              clear hrow1 hown1 hown2 hb1 hb2 hz2 hl2 hbel cb hfrb HPS HS HO HR
              by_cases hmx : S.last < f + z
              · go_wp2
                go_roundw
                case rel => exact ⟨k + 1, by omega, by go_num, by rw [HLa.out, if_pos hmx], HO1.out, HR1.out, HB2.out, HL2.out⟩
                case measure => simp [intOf]; omega
              · go_wp2
                go_roundw
                case rel => exact ⟨k + 1, by omega, by go_num, by rw [HLa.out, if_neg hmx], HO1.out, HR1.out, HB2.out, HL2.out⟩
                case measure => simp [intOf]; omega
        · have hkn : k = n := by omega
          have HO := Lib.hid hown
          have HB := Lib.hid hbel
          clear hown hbel hrow
          go_wp2
          go_ret3
          have hl := HL.out
          refine ⟨_, by rw [hl, ← hkn]; rfl, ?_, by rw [← HG.out]; exact HB.out⟩
          rw [hl, ← hkn]
          obtain ⟨h1, h2⟩ := HO.out
          refine ⟨h1, ?_⟩
          rcases h2 with h2 | ⟨g', cap, cur, e1, e2, e3⟩
          · exact .inl h2
          · exact .inr ⟨g', cap, cur, e1, by rw [← HG.out]; omega, e3⟩
end Go.Proofs.Ytnjheiiohfhckaa
