/- Lemmas and contracts of functions (what each call returns, and that it changes nothing that was there) that the proof of a law of this seat uses; each lemma states its own conditions. -/
import Derived.Test.YtikddfjickkhhaaLy1
import Derived.Test.YtikddfjickkhhaaLy7
import Derived.Test.YtikddfjickkhhaaCl7
namespace Go.Proofs.Ytikddfjickkhhaa
open Go.RowKit
set_option linter.unusedVariables false
set_option linter.unusedSimpArgs false
open Cl
theorem BelowX.setN {base mb : Nat} {W w : World} (h : BelowX base mb W w) (i : Nat) (v : Value) : BelowX base mb W (w.setCell ⟨mb, i, none⟩ v) :=
  ⟨h.os, h.tape, h.output, by rw [World.size_setCell]; exact h.size, fun k hk hm => (Below.heap_setCell _ _ _ k (fun e => hm (by rw [e]))).trans (h.block k hk hm)⟩
theorem own_belowX {w w' : World} {base e size mb n : Nat} {v : Value} {xs : List Value} (h : w.ownsRow base e size v n xs) (hX : BelowX w.heap.size mb w w') (hm : mb < base) : w'.ownsRow base e size v n xs := by
  refine ⟨h.1, ?_⟩
  rcases h.2 with hn | ⟨g, cap, cur, rfl, e2, e3, e4⟩
  · exact .inl hn
  · exact .inr ⟨g, cap, cur, rfl, e2, by rw [hX.block g (h.lt g rfl).2 (by omega)]; exact e3, e4⟩
/-- 'append(s, l...)', l a list of integers that lies somewhere. -/
theorem wpAppI {W : World} {ops : Array Oper} {rest : List Oper} {o : Oper} {a : Act} {Q : Exit → Act → World → Prop}
    (hgd : o.guard = none) (s x : Operand) (ho : o.op = .call { callee := .builtin .append, args := #[s, x], argTypes := #[23, 23] })
    (base : Nat) (v : Value) (n : Nat) (xs : List Value) (L : List Nat) (b of c : Nat) (hs : a.eval s = v) (hown : W.ownsRow base 3 1 v n xs)
    (hx : a.eval x = .slice (some ⟨b, of, none⟩) L.length c) (hI : ∀ j, j < L.length → W.cell? ⟨b, of + j, none⟩ = some (.int .i64 ((natI L).getD j 0)))
    (hn : n + L.length ≤ 1000000000) (hbase : base ≤ W.heap.size)
    (h : ∀ v' w', w'.ownsRow base 3 1 v' (n + L.length) (xs ++ natV L) → Below base W w' → wpList Try.prog ops Q rest (a.put o.dst v') w') : wpList Try.prog ops Q (o :: rest) a W := by
  obtain ⟨h2, h3, h4, h5⟩ := okInts'
  obtain ⟨i0, hi, hz0, hz1, hz2⟩ := info_parts h3
  refine wpList_append_own _ hgd s x 23 ho base 3 i0 (.int .i64 0) 1 8 h2 hi hz0 hz1 hz2 h4 h5 v n xs hs hown ⟨b, of, none⟩ L.length c (natV L) hx (by simp [natV]) ?_ ?_ (by unfold maxLen; omega) (by omega) hbase ?_
  · intro j u hj
    have hjl : j < L.length := by
      have := (List.getElem?_eq_some_iff.1 hj).1
      simpa [natV] using this
    rw [Addr.add_lit, hI j hjl]
    rw [natV, List.getElem?_map, List.getElem?_eq_getElem hjl] at hj
    rw [natI_get, show L.getD j 0 = L[j] by simp [List.getD, hjl]]
    exact hj
  · intro u hu
    simp only [natV, List.mem_map] at hu
    obtain ⟨y, _, rfl⟩ := hu
    rfl
  · intro v' w' hown' hg _
    exact h v' w' hown' (belowGrown hg hbase fun k hk => (hown.lt k hk).1)
section
variable {n : Nat} {ab : Nat → Nat → Bool}
theorem sheet_sorted (s : Nat) : (sheet n ab s).Pairwise (fun a b => a < b) := (range_pairs n).filter _
def mk2 (dk : Nat → Bool) (L : List Nat) (j s : Nat) : Bool := dk s || decide (s ∈ L.take j)
theorem mk2_step {dk : Nat → Bool} {L : List Nat} {j : Nat} (hj : j < L.length) (s : Nat) : mk2 dk L (j+1) s = if s = L.getD j 0 then true else mk2 dk L j s := by
  unfold mk2
  rw [List.take_succ_eq_append_getElem hj, show L.getD j 0 = L[j] by simp [List.getD, hj]]
  by_cases e : s = L[j]
  · rw [if_pos e, decide_eq_true (List.mem_append.2 (.inr (by simp [e]))), Bool.or_true]
  · rw [if_neg e]
    congr 1
    rw [Bool.eq_iff_iff, decide_eq_true_eq, decide_eq_true_eq, List.mem_append, List.mem_singleton]
    exact ⟨fun h => h.resolve_right e, .inl⟩
theorem mk2_new {dk : Nat → Bool} {L : List Nat} (hp : L.Pairwise (fun a b => a < b)) {j : Nat} (hj : j < L.length) (hd : dk (L.getD j 0) = false) : mk2 dk L j (L.getD j 0) = false := by
  unfold mk2
  rw [hd, Bool.false_or, decide_eq_false_iff_not]
  intro hm
  obtain ⟨i, hi, he⟩ := List.getElem_of_mem hm
  rw [List.length_take] at hi
  rw [List.getElem_take, show L.getD j 0 = L[j] by simp [List.getD, hj]] at he
  have := (List.pairwise_iff_getElem.1 hp) i j (by omega) hj (by omega)
  omega
theorem mk2_all {k s : Nat} (hk : k < (heads n ab).length) (hs : s < n) : mk2 (dn n ab ((heads n ab).take k)) (sheet n ab (heads n ab)[k]) (sheet n ab (heads n ab)[k]).length s = dn n ab ((heads n ab).take (k+1)) s := by
  rw [dn_succ hk]
  unfold mk2
  rw [List.take_length]
  congr 1
  rw [Bool.eq_iff_iff, decide_eq_true_eq, mem_sheet]
  exact ⟨fun h => h.2, fun h => ⟨hs, h⟩⟩
theorem aboveL_len (k : Nat) (hk : k ≤ (heads n ab).length) : (aboveL n ab k).length ≤ k * n := by
  induction k with
  | zero => simp [aboveL]
  | succ k ih =>
    rw [aboveL_succ (by omega), List.length_append, Nat.add_mul, Nat.one_mul]
    have := ih (by omega)
    have : (sheet n ab (heads n ab)[k]).length ≤ n := cnt_le n _
    omega
end
set_option maxRecDepth 100000 in
set_option maxHeartbeats 8000000 in
theorem clayers_walk (W H : Int) (a : Option Addr) (n c : Nat) (bs : List Bool) (a2 : Option Addr) (n2 c2 : Nat) (zs : List Int) (w : World) (hi : IsBools w a n bs) (hz : IsInts w a2 n2 zs) (h1 : (-9223372036854775808 ≤ W ∧ W ≤ 9223372036854775807)) (h2 : (-9223372036854775808 ≤ H ∧ H ≤ 9223372036854775807)) (h3 : n ≤ 9223372036854775807) (hn2 : n2 ≤ 9223372036854775807) :
    Calls Try.prog 7 #[.agg #[.int .i64 (W), .int .i64 (H), .slice a n c], .slice a2 n2 c2] w fun e w' => e = .returned (.bool true) ∧ Below w.heap.size w w' := by
  have HI := Lib.hid hi
  have HZ := Lib.hid hz
  by_cases he : wrC W H n = 0
  · obtain ⟨hq, hn0⟩ := wrC_zero he
    obtain ⟨W, H, rfl, rfl, hW, hH, hn⟩ := wrT_zero hq
    have h0 : 0 < W + H := by
      rcases Nat.eq_zero_or_pos (W + H) with e | e
      · have : W = 0 := by omega
        subst this
        rw [Nat.zero_mul] at hn; omega
      · exact e
    have HLa := Lib.hid (fun w (hi : IsBools w a n bs) => Layers_ok W H a n c bs w hi hW hH hn he)
    have HHa := Lib.hid (fun w (hi : IsBools w a n bs) => Hangs_ok W H a n c bs w hi hW hH hn he)
    have HFr := Lib.hid (fun w (hi : IsBools w a n bs) A N C Z (hz : IsInts w A N Z) (hN : N ≤ 9223372036854775807) => free_any W H a n c bs A N C Z w hi hz hW hH hn hN)
    have HTo := Lib.hid (fun w (hi : IsBools w a n bs) SA sc SL hS (hz : IsInts w a2 n2 zs) hsl hSN hP => torn_any W H a n c bs SA sc SL a2 n2 c2 zs w hi hS hz hW hH hn hn2 hsl hSN hP)
    have HBd := Lib.hid (abM_bnd W H bs)
    have hone := one_sheet (n := W + H) (ab := abM W H bs) (abM_bnd W H bs) h0
    have hWH : (W : Int) + (H : Int) = ((W + H : Nat) : Int) := by omega
    have hNl : W + H ≤ 128 := by omega
    clear hi hz he hq hn hn0 h1 h2 h3
    generalize abM W H bs = ab at *
    generalize hN : W + H = N at *
    have HN := Lib.hid hN
    clear hN
    obtain ⟨M, hM⟩ : ∃ M, (layers N ab).length = M := ⟨_, rfl⟩
    have hMH : (heads N ab).length = M := by rw [← hM]; unfold layers; rw [List.length_map]
    have hML : M ≤ 128 := by rw [← hMH, heads_len]; exact Nat.le_trans (cnt_le _ _) hNl
    have hbb : (((lift N ab).length : Int) == 0) = (M == 1) := by
      rw [Bool.eq_iff_iff]
      simp only [beq_iff_eq, Int.natCast_eq_zero, List.length_eq_zero_iff]
      rw [hone, hMH]
    rw [hMH] at hone
    rw [hbb] at HHa
    have HM := Lib.hid hM; have HMH := Lib.hid hMH
    clear hone hbb hM hMH h0
    obtain ⟨b1, hb1⟩ : ∃ b, (M == 1) = b := ⟨_, rfl⟩
    have hb1' : ((M : Int) == 1) = b1 := by rw [← hb1, Bool.eq_iff_iff]; simp only [beq_iff_eq]; omega
    rw [hb1] at HHa
    clear hb1
    have hmk3 := makeRow okBools rfl N (by omega) (by omega)
    have hlen1 : (b1 != b1) = false := by simp
    go_enter Try.func7, Try.ntmps7
    (go_wp2_with fail; refine (alive8_any _).mono ?_; rintro r w1 ⟨rfl, hb⟩; obtain ⟨E, d, rfl⟩ := bExt hb; clear hb)
    go_wp2_with fail
    refine (HLa.out _ (HI.out.below (by repeat (first | exact Below.refl _ _ | refine Below.drew ?_ | refine below_drewN ?_ _ | refine Below.alloc ?_ (by first | exact Nat.le_refl _ | (simp; done) | (simp; omega) | omega) _ | refine Below.setCell ?_ (by first | exact Nat.le_refl _ | (simp; done) | (simp; omega) | omega) _ | refine bExtW ?_ (by first | exact Nat.le_refl _ | (simp; done) | (simp; omega) | omega) | refine Below.trans ?_ (Below.mono (by assumption) (by first | exact Nat.le_refl _ | (simp; done) | (simp; omega) | omega)))))).mono ?_
    rintro r w1 ⟨AS, cS, rfl, hLS, hb⟩
    obtain ⟨E5, d5, rfl⟩ := bExt hb
    have HLS := Lib.hid hLS
    rw [HM.out] at HLS ⊢
    clear hb hLS
    go_wp2_with fail
    refine (HHa.out _ (HI.out.below (by repeat (first | exact Below.refl _ _ | refine Below.drew ?_ | refine below_drewN ?_ _ | refine Below.alloc ?_ (by first | exact Nat.le_refl _ | (simp; done) | (simp; omega) | omega) _ | refine Below.setCell ?_ (by first | exact Nat.le_refl _ | (simp; done) | (simp; omega) | omega) _ | refine bExtW ?_ (by first | exact Nat.le_refl _ | (simp; done) | (simp; omega) | omega) | refine Below.trans ?_ (Below.mono (by assumption) (by first | exact Nat.le_refl _ | (simp; done) | (simp; omega) | omega)))))).mono ?_
    rintro r w1 ⟨rfl, hb⟩
    obtain ⟨E6, d6, rfl⟩ := bExt hb
    clear hb
    go_wp2_with fail
    have hq := tF_alloc w W H (.slice a n c) rfl
    have hq2 := rowBelow hq (bExtW (bExtW (bExtW (Below.refl _ _) (Nat.le_refl _)) (by first | (simp; done) | (simp; omega))) (by first | (simp; done) | (simp; omega)) : Below (w.alloc (.cells #[.int .i64 (W), .int .i64 (H), .slice a n c] 26)).heap.size _ (extW (extW (extW (w.alloc (.cells #[.int .i64 (W), .int .i64 (H), .slice a n c] 26)) E d) E5 d5) E6 d6)) (by simp)
    have hb0 : Below w.heap.size w (extW (extW (extW (w.alloc (.cells #[.int .i64 (W), .int .i64 (H), .slice a n c] 26)) E d) E5 d5) E6 d6) := (by repeat (first | exact Below.refl _ _ | refine Below.drew ?_ | refine below_drewN ?_ _ | refine Below.alloc ?_ (by first | exact Nat.le_refl _ | (simp; done) | (simp; omega) | omega) _ | refine Below.setCell ?_ (by first | exact Nat.le_refl _ | (simp; done) | (simp; omega) | omega) _ | refine bExtW ?_ (by first | exact Nat.le_refl _ | (simp; done) | (simp; omega) | omega) | refine Below.trans ?_ (Below.mono (by assumption) (by first | exact Nat.le_refl _ | (simp; done) | (simp; omega) | omega))))
    have hls := HLS.out.below (show Below _ _ (extW (extW (extW (w.alloc (.cells #[.int .i64 (W), .int .i64 (H), .slice a n c] 26)) E d) E5 d5) E6 d6) from (by repeat (first | exact Below.refl _ _ | refine Below.drew ?_ | refine below_drewN ?_ _ | refine Below.alloc ?_ (by first | exact Nat.le_refl _ | (simp; done) | (simp; omega) | omega) _ | refine Below.setCell ?_ (by first | exact Nat.le_refl _ | (simp; done) | (simp; omega) | omega) _ | refine bExtW ?_ (by first | exact Nat.le_refl _ | (simp; done) | (simp; omega) | omega) | refine Below.trans ?_ (Below.mono (by assumption) (by first | exact Nat.le_refl _ | (simp; done) | (simp; omega) | omega)))))
    have hD := World.rowIs_made (extW (extW (extW (w.alloc (.cells #[.int .i64 (W), .int .i64 (H), .slice a n c] 26)) E d) E5 d5) E6 d6) (.bool false) N 4
    have hsz : (extW (extW (extW (w.alloc (.cells #[.int .i64 (W), .int .i64 (H), .slice a n c] 26)) E d) E5 d5) E6 d6).heap.size = w.heap.size + 1 + E.size + E5.size + E6.size := by simp
    rw [hsz] at hD
    clear hq
    generalize (extW (extW (extW (w.alloc (.cells #[.int .i64 (W), .int .i64 (H), .slice a n c] 26)) E d) E5 d5) E6 d6) = Wp at *
    obtain ⟨db, hdb⟩ : ∃ db, w.heap.size + 1 + E.size + E5.size + E6.size = db := ⟨_, rfl⟩
    rw [hdb] at hD hsz ⊢
    obtain ⟨q, hqe⟩ : ∃ q, w.heap.size = q := ⟨_, rfl⟩
    rw [hqe] at hq2 hb0 ⊢
    have hqd : q < db := by omega
    have hal : Below Wp.heap.size Wp (Wp.alloc (.cells (madeCells #[.bool false] N) 4)) := (Below.refl _ _).alloc (Nat.le_refl _) _
    have hsz3 : (Wp.alloc (.cells (madeCells #[.bool false] N) 4)).heap.size = db + 1 := by simp [hsz]
    generalize Wp.alloc (.cells (madeCells #[.bool false] N) 4) = W3 at *
    obtain ⟨base, hbase⟩ : ∃ b, b = W3.heap.size := ⟨_, rfl⟩
    have hdbb : db < base := by omega
    have HFA : Hid (∀ wr, BelowX base db W3 wr → wr.rowIs q 26 3 (tF W H (.slice a n c)) ∧ Below Wp.heap.size Wp wr ∧ Below w.heap.size w wr) := Lib.hid fun wr hX => by
      have h1 : Below db Wp wr := (by rw [hsz] at hal; exact hal : Below db Wp W3).trans (hX.below hbase.symm (Nat.le_refl _) hdbb)
      refine ⟨rowBelow hq2 h1 hqd, (by rw [hsz]; exact h1), ?_⟩
      rw [hqe]; exact hb0.trans (h1.mono (by omega))
    have HLP := Lib.hid hls
    have HD := Lib.hid hD; have HBS := Lib.hid hbase; have HQE := Lib.hid hqe
    clear hq2 hb0 hls hD hsz hdb hqe hal hsz3 hbase HLS hmk3 hWH hlen1 hb1' HLa HHa
    go_loopw [47, 8] (fun i v wr => ∃ k : Nat, k ≤ M ∧ i = .int .i64 k ∧ wr.ownsRow base 3 1 v (aboveL N ab k).length (natV (aboveL N ab k)) ∧ wr.rowIs db 4 N (fun s => .bool (dn N ab ((heads N ab).take k) s)) ∧ BelowX base db W3 wr) (fun i _ _ => M - (intOf i).toNat)
    case atStart => exact ⟨0, Nat.zero_le _, rfl, by rw [show aboveL N ab 0 = [] by simp [aboveL]]; exact World.ownsRow_nil _ _ _ _, HD.out.congr fun i hi => by simp [dn], BelowX.refl (by rw [HBS.out]; exact Nat.le_refl _)⟩
    case round =>
      clear HD
      obtain ⟨k, hk, rfl, hown, hrow, hX⟩ := hrel
      by_cases hkM : k < M
      · have hkH : k < (heads N ab).length := by rw [HMH.out]; exact hkM
        obtain ⟨hqr, hbP, hbw⟩ := HFA.out _ hX
        obtain ⟨b, o, rfl, hbl, hc⟩ := HLP.out.2 (by omega)
        obtain ⟨SA, sc, cS0, iS⟩ := hc k hkM
        have cS1 := bCs hbP cS0
        clear cS0
        have hLk : (natLL (layers N ab)).getD k [] = natI (sheet N ab (heads N ab)[k]) := by
          rw [natLL_get]
          congr 1
          unfold layers
          simp [List.getD, hkH]
        rw [hLk, show (natI (sheet N ab (heads N ab)[k])).length = (sheet N ab (heads N ab)[k]).length by simp [natI]] at cS1 iS
        have HMK := Lib.hid (fun s hs => mk2_all (n := N) (ab := ab) (s := s) hkH hs)
        have HFR := Lib.hid (fun s => dn_fresh (n := N) (ab := ab) (s := s) HBd.out hkH)
        have HAB := Lib.hid (aboveL_succ (n := N) (ab := ab) hkH)
        have hal2 := aboveL_len (n := N) (ab := ab) (k+1) (by omega)
        have hmul : (k + 1) * N ≤ 16384 := Nat.le_trans (Nat.mul_le_mul (show k + 1 ≤ 128 by omega) hNl) (by omega)
        have HWH := Lib.hid (sheet_whole (n := N) (ab := ab) HBd.out (heads_get hkH).1)
        have hself : (heads N ab)[k] ∈ sheet N ab (heads N ab)[k] := mem_sheet.2 ⟨(heads_get hkH).1, scc_self _⟩
        have HMS := Lib.hid (fun (x : Nat) (hx : x ∈ sheet N ab (heads N ab)[k]) => mem_sheet.1 hx)
        have hpos := List.length_pos_of_mem hself
        have hsrt := sheet_sorted (n := N) (ab := ab) (heads N ab)[k]
        have hshl : (sheet N ab (heads N ab)[k]).length ≤ N := cnt_le N _
        have hfree : k + 1 < M → freeV N ab (natI (aboveL N ab (k+1))) = true := fun h => above_free HBd.out (by omega) (by rw [HMH.out]; exact h)
        clear hself hLk hc
        generalize (heads N ab)[k] = fst at *
        clear hkH
        generalize sheet N ab fst = SL at *
        generalize hdk : dn N ab ((heads N ab).take k) = dk at *
        have HDK := Lib.hid hdk
        clear hdk
        obtain ⟨ln, hln⟩ : ∃ l, SL.length = l := ⟨_, rfl⟩
        have HLN := Lib.hid hln
        rw [hln] at cS1 iS hpos hshl
        clear hln
        have hl1 : ((ln : Int) == 0) = false := by simp; omega
        have hl2 : (ln == 0) = false := by simp; omega
        have HXk := Lib.hid hX; have HO := Lib.hid hown; have HR := Lib.hid hrow; have HFREE := Lib.hid hfree; have HSRT := Lib.hid hsrt
        have lb : LtW b wr := Nat.lt_of_lt_of_le hbl hbP.size
        have hszX := hX.size
        have HISP : Hid (∀ wq, BelowX base db W3 wq → IsInts wq SA ln (natI SL)) := Lib.hid fun wq hq => iS.below (HFA.out _ hq).2.1
        clear iS hX hown hrow hfree hqr hbP hbw hbl hsrt
        obtain ⟨wo, rfl⟩ : ∃ wo : World, wo = wr := ⟨_, rfl⟩
        go_wp2_with fail
        clear hl1 hl2 cS1 lb
        go_loopw [57] (fun i wq => ∃ j : Nat, j ≤ ln ∧ i = .int .i64 j ∧ wq.rowIs db 4 N (fun s => .bool (mk2 dk SL j s)) ∧ BelowX wo.heap.size db wo wq) (fun i _ => ln - (intOf i).toNat)
        case atStart => exact ⟨0, Nat.zero_le _, rfl, HR.out.congr fun i hi => by simp [mk2], BelowX.refl (Nat.le_refl _)⟩
        case round =>
          obtain ⟨j, hj, rfl, hrow, hX⟩ := hrel
          have hXA : BelowX base db W3 wr := HXk.out.trans hX hszX
          have hIw := HISP.out _ hXA
          by_cases hjl : j < ln
          · obtain ⟨b2, o2, rfl, hb2, hc2⟩ := hIw.2 (by omega)
            have c0 := hc2 j hjl
            rw [natI_get] at c0
            have lb2 : LtW b2 wr := hb2
            have hjS : j < SL.length := by rw [HLN.out]; exact hjl
            have hxm := HMS.out _ (getD_mem hjS)
            have hnew := mk2_new (dk := dk) HSRT.out hjS (HFR.out _ hxm.2)
            have HST := Lib.hid (fun s => mk2_step (dk := dk) hjS s)
            have hxN := hxm.1
            have cx := hrow.cell hxN
            rw [hnew] at cx
            have fx := hrow.frozen (SL.getD j 0)
            have lx : LtW db wr := hrow.lt
            have HRW := Lib.hid hrow; have HX := Lib.hid hX
            clear hc2 hIw hXA hrow hX hb2 hxm hnew
            generalize SL.getD j 0 = x at *
            go_wp2
            go_roundw
            case rel => exact ⟨j + 1, by omega, by go_num, (HRW.out.set x (.bool true)).congr (fun i hi => by
              rw [HST.out]
              by_cases e : i = x <;> simp [e]), HX.out.setN x (.bool true)⟩
            case measure => simp [intOf]; omega
          · obtain rfl : ln = j := by omega
            obtain ⟨b2, o2, rfl, hb2, hc2⟩ := hIw.2 (by omega)
            have HOW := Lib.hid (own_belowX HO.out hX hdbb)
            have HC2 := Lib.hid (show ∀ j, j < SL.length → wr.cell? ⟨b2, o2 + j, none⟩ = some (.int .i64 ((natI SL).getD j 0)) from fun j hj => hc2 j (by rw [← HLN.out]; exact hj))
            have HR1 := Lib.hid (hrow.congr (g := fun s => .bool (dn N ab ((heads N ab).take (k+1)) s)) (fun i hi => by
              have := HMK.out i hi
              rw [HLN.out] at this
              rw [this]))
            have HXA := Lib.hid hXA
            have hszA := hXA.size
            have hlA : (aboveL N ab k).length + SL.length ≤ 16384 := by
              have := hal2
              rw [HAB.out, List.length_append] at this
              omega
            clear hIw hc2 hX hrow hXA HO HR hb2
            go_wp2_with (at_builtin; refine wpAppI rfl (.tmp 79) (.tmp 80) rfl base _ _ _ SL b2 o2 sc rfl HOW.out ?_ HC2.out (by omega) hszA ?_)
            · rw [HLN.out]; rfl
            · intro v' w2 hown2 hb2
              have HR2 := Lib.hid (rowBelow HR1.out hb2 hdbb)
              have hX2 := HXA.out.then hb2
              have HX2 := Lib.hid hX2
              obtain ⟨hqr, _, hbw⟩ := HFA.out _ hX2
              have hO2 : w2.ownsRow base 3 1 v' (aboveL N ab (k+1)).length (natV (aboveL N ab (k+1))) := by
                rw [HAB.out, List.length_append, show natV (aboveL N ab k ++ SL) = natV (aboveL N ab k) ++ natV SL by simp [natV]]
                exact hown2
              obtain ⟨A3, C3, rfl, hI3⟩ := IsInts.of_nats hO2
              have HO2 := Lib.hid hO2
              have HI3 := Lib.hid hI3
              have HIS2 : Hid (IsInts w2 (some ⟨b2, o2, none⟩) SL.length (natI SL)) := Lib.hid (by rw [HLN.out]; exact HISP.out _ hX2)
              have q0 : w2.cell? ⟨q, 0, none⟩ = some (.int .i64 (W)) := hqr.cell (i := 0) (by omega)
              have q1 : w2.cell? ⟨q, 1, none⟩ = some (.int .i64 (H)) := hqr.cell (i := 1) (by omega)
              have q2 : w2.cell? ⟨q, 2, none⟩ = some (.slice a n c) := hqr.cell (i := 2) (by omega)
              have lq : LtW q w2 := hqr.lt
              have HIW3 := Lib.hid (HI.out.below hbw)
              have HZ3 := Lib.hid (HZ.out.below hbw)
              clear hqr hbw hX2 hown2 hb2 hI3
              by_cases hkl : k + 1 < M
              · have hd1 : decide ((k : Int) + 1 < (M : Int)) = true := by simp; omega
                have hd2 : decide (k + 1 < M) = true := by simp; omega
                have HFF := Lib.hid (HFREE.out hkl)
                have hlA2 : (aboveL N ab (k+1)).length ≤ 16384 := by omega
                clear hkl
                generalize hAL : aboveL N ab (k+1) = AL at *
                have HAL := Lib.hid hAL
                clear hAL
                go_wp2_with fail
                refine (HFr.out _ (HIW3.out.below (by repeat (first | exact Below.refl _ _ | refine Below.drew ?_ | refine below_drewN ?_ _ | refine Below.alloc ?_ (by first | exact Nat.le_refl _ | (simp; done) | (simp; omega) | omega) _ | refine Below.setCell ?_ (by first | exact Nat.le_refl _ | (simp; done) | (simp; omega) | omega) _ | refine bExtW ?_ (by first | exact Nat.le_refl _ | (simp; done) | (simp; omega) | omega) | refine Below.trans ?_ (Below.mono (by assumption) (by first | exact Nat.le_refl _ | (simp; done) | (simp; omega) | omega))))) A3 AL.length C3 (natI AL) (HI3.out.below (by repeat (first | exact Below.refl _ _ | refine Below.drew ?_ | refine below_drewN ?_ _ | refine Below.alloc ?_ (by first | exact Nat.le_refl _ | (simp; done) | (simp; omega) | omega) _ | refine Below.setCell ?_ (by first | exact Nat.le_refl _ | (simp; done) | (simp; omega) | omega) _ | refine bExtW ?_ (by first | exact Nat.le_refl _ | (simp; done) | (simp; omega) | omega) | refine Below.trans ?_ (Below.mono (by assumption) (by first | exact Nat.le_refl _ | (simp; done) | (simp; omega) | omega))))) (by omega)).mono ?_
                rw [HFF.out]
                rintro r w4 ⟨rfl, hb4⟩
                obtain ⟨E7, d7, rfl⟩ := bExt hb4
                clear hb4
                go_wp2_with fail
                clear hd1 hd2
                have hto := HTo.out (extW w2 E7 d7) (HIW3.out.below (by repeat (first | exact Below.refl _ _ | refine Below.drew ?_ | refine below_drewN ?_ _ | refine Below.alloc ?_ (by first | exact Nat.le_refl _ | (simp; done) | (simp; omega) | omega) _ | refine Below.setCell ?_ (by first | exact Nat.le_refl _ | (simp; done) | (simp; omega) | omega) _ | refine bExtW ?_ (by first | exact Nat.le_refl _ | (simp; done) | (simp; omega) | omega) | refine Below.trans ?_ (Below.mono (by assumption) (by first | exact Nat.le_refl _ | (simp; done) | (simp; omega) | omega))))) (some ⟨b2, o2, none⟩) sc SL (HIS2.out.below (by repeat (first | exact Below.refl _ _ | refine Below.drew ?_ | refine below_drewN ?_ _ | refine Below.alloc ?_ (by first | exact Nat.le_refl _ | (simp; done) | (simp; omega) | omega) _ | refine Below.setCell ?_ (by first | exact Nat.le_refl _ | (simp; done) | (simp; omega) | omega) _ | refine bExtW ?_ (by first | exact Nat.le_refl _ | (simp; done) | (simp; omega) | omega) | refine Below.trans ?_ (Below.mono (by assumption) (by first | exact Nat.le_refl _ | (simp; done) | (simp; omega) | omega))))) (HZ3.out.below (by repeat (first | exact Below.refl _ _ | refine Below.drew ?_ | refine below_drewN ?_ _ | refine Below.alloc ?_ (by first | exact Nat.le_refl _ | (simp; done) | (simp; omega) | omega) _ | refine Below.setCell ?_ (by first | exact Nat.le_refl _ | (simp; done) | (simp; omega) | omega) _ | refine bExtW ?_ (by first | exact Nat.le_refl _ | (simp; done) | (simp; omega) | omega) | refine Below.trans ?_ (Below.mono (by assumption) (by first | exact Nat.le_refl _ | (simp; done) | (simp; omega) | omega))))) (by have := HLN.out; omega) (fun x hx => (HMS.out x hx).1) HWH.out
                rw [HLN.out] at hto
                refine hto.mono ?_
                rintro r w5 ⟨rfl, hb5⟩
                obtain ⟨E8, d8, rfl⟩ := bExt hb5
                clear hb5
                go_wp2
                go_roundw
                case rel => exact ⟨k + 1, by omega, by go_num, by first | exact ownBelow HO2.out (show Below w2.heap.size w2 (extW (extW w2 E7 d7) E8 d8) from (by repeat (first | exact Below.refl _ _ | refine Below.drew ?_ | refine below_drewN ?_ _ | refine Below.alloc ?_ (by first | exact Nat.le_refl _ | (simp; done) | (simp; omega) | omega) _ | refine Below.setCell ?_ (by first | exact Nat.le_refl _ | (simp; done) | (simp; omega) | omega) _ | refine bExtW ?_ (by first | exact Nat.le_refl _ | (simp; done) | (simp; omega) | omega) | refine Below.trans ?_ (Below.mono (by assumption) (by first | exact Nat.le_refl _ | (simp; done) | (simp; omega) | omega))))) | (rw [HAL.out]; exact ownBelow HO2.out (show Below w2.heap.size w2 (extW (extW w2 E7 d7) E8 d8) from (by repeat (first | exact Below.refl _ _ | refine Below.drew ?_ | refine below_drewN ?_ _ | refine Below.alloc ?_ (by first | exact Nat.le_refl _ | (simp; done) | (simp; omega) | omega) _ | refine Below.setCell ?_ (by first | exact Nat.le_refl _ | (simp; done) | (simp; omega) | omega) _ | refine bExtW ?_ (by first | exact Nat.le_refl _ | (simp; done) | (simp; omega) | omega) | refine Below.trans ?_ (Below.mono (by assumption) (by first | exact Nat.le_refl _ | (simp; done) | (simp; omega) | omega)))))), rowBelow HR2.out (show Below w2.heap.size w2 (extW (extW w2 E7 d7) E8 d8) from (by repeat (first | exact Below.refl _ _ | refine Below.drew ?_ | refine below_drewN ?_ _ | refine Below.alloc ?_ (by first | exact Nat.le_refl _ | (simp; done) | (simp; omega) | omega) _ | refine Below.setCell ?_ (by first | exact Nat.le_refl _ | (simp; done) | (simp; omega) | omega) _ | refine bExtW ?_ (by first | exact Nat.le_refl _ | (simp; done) | (simp; omega) | omega) | refine Below.trans ?_ (Below.mono (by assumption) (by first | exact Nat.le_refl _ | (simp; done) | (simp; omega) | omega))))) HR2.out.lt, HX2.out.then ((show Below w2.heap.size w2 (extW (extW w2 E7 d7) E8 d8) from (by repeat (first | exact Below.refl _ _ | refine Below.drew ?_ | refine below_drewN ?_ _ | refine Below.alloc ?_ (by first | exact Nat.le_refl _ | (simp; done) | (simp; omega) | omega) _ | refine Below.setCell ?_ (by first | exact Nat.le_refl _ | (simp; done) | (simp; omega) | omega) _ | refine bExtW ?_ (by first | exact Nat.le_refl _ | (simp; done) | (simp; omega) | omega) | refine Below.trans ?_ (Below.mono (by assumption) (by first | exact Nat.le_refl _ | (simp; done) | (simp; omega) | omega))))).mono HX2.out.size)⟩
                case measure => simp [intOf]; omega
              · have hd1 : decide ((k : Int) + 1 < (M : Int)) = false := by simp; omega
                have hd2 : decide (k + 1 < M) = false := by simp; omega
                go_wp2_with fail
                clear hd1 hd2
                have hto := HTo.out w2 (HIW3.out.below (by repeat (first | exact Below.refl _ _ | refine Below.drew ?_ | refine below_drewN ?_ _ | refine Below.alloc ?_ (by first | exact Nat.le_refl _ | (simp; done) | (simp; omega) | omega) _ | refine Below.setCell ?_ (by first | exact Nat.le_refl _ | (simp; done) | (simp; omega) | omega) _ | refine bExtW ?_ (by first | exact Nat.le_refl _ | (simp; done) | (simp; omega) | omega) | refine Below.trans ?_ (Below.mono (by assumption) (by first | exact Nat.le_refl _ | (simp; done) | (simp; omega) | omega))))) (some ⟨b2, o2, none⟩) sc SL (HIS2.out.below (by repeat (first | exact Below.refl _ _ | refine Below.drew ?_ | refine below_drewN ?_ _ | refine Below.alloc ?_ (by first | exact Nat.le_refl _ | (simp; done) | (simp; omega) | omega) _ | refine Below.setCell ?_ (by first | exact Nat.le_refl _ | (simp; done) | (simp; omega) | omega) _ | refine bExtW ?_ (by first | exact Nat.le_refl _ | (simp; done) | (simp; omega) | omega) | refine Below.trans ?_ (Below.mono (by assumption) (by first | exact Nat.le_refl _ | (simp; done) | (simp; omega) | omega))))) (HZ3.out.below (by repeat (first | exact Below.refl _ _ | refine Below.drew ?_ | refine below_drewN ?_ _ | refine Below.alloc ?_ (by first | exact Nat.le_refl _ | (simp; done) | (simp; omega) | omega) _ | refine Below.setCell ?_ (by first | exact Nat.le_refl _ | (simp; done) | (simp; omega) | omega) _ | refine bExtW ?_ (by first | exact Nat.le_refl _ | (simp; done) | (simp; omega) | omega) | refine Below.trans ?_ (Below.mono (by assumption) (by first | exact Nat.le_refl _ | (simp; done) | (simp; omega) | omega))))) (by have := HLN.out; omega) (fun x hx => (HMS.out x hx).1) HWH.out
                rw [HLN.out] at hto
                refine hto.mono ?_
                rintro r w5 ⟨rfl, hb5⟩
                obtain ⟨E8, d8, rfl⟩ := bExt hb5
                clear hb5
                go_wp2
                go_roundw
                case rel => exact ⟨k + 1, by omega, by go_num, by first | exact ownBelow HO2.out (show Below w2.heap.size w2 (extW w2 E8 d8) from (by repeat (first | exact Below.refl _ _ | refine Below.drew ?_ | refine below_drewN ?_ _ | refine Below.alloc ?_ (by first | exact Nat.le_refl _ | (simp; done) | (simp; omega) | omega) _ | refine Below.setCell ?_ (by first | exact Nat.le_refl _ | (simp; done) | (simp; omega) | omega) _ | refine bExtW ?_ (by first | exact Nat.le_refl _ | (simp; done) | (simp; omega) | omega) | refine Below.trans ?_ (Below.mono (by assumption) (by first | exact Nat.le_refl _ | (simp; done) | (simp; omega) | omega))))) | (rw [HAL.out]; exact ownBelow HO2.out (show Below w2.heap.size w2 (extW w2 E8 d8) from (by repeat (first | exact Below.refl _ _ | refine Below.drew ?_ | refine below_drewN ?_ _ | refine Below.alloc ?_ (by first | exact Nat.le_refl _ | (simp; done) | (simp; omega) | omega) _ | refine Below.setCell ?_ (by first | exact Nat.le_refl _ | (simp; done) | (simp; omega) | omega) _ | refine bExtW ?_ (by first | exact Nat.le_refl _ | (simp; done) | (simp; omega) | omega) | refine Below.trans ?_ (Below.mono (by assumption) (by first | exact Nat.le_refl _ | (simp; done) | (simp; omega) | omega)))))), rowBelow HR2.out (show Below w2.heap.size w2 (extW w2 E8 d8) from (by repeat (first | exact Below.refl _ _ | refine Below.drew ?_ | refine below_drewN ?_ _ | refine Below.alloc ?_ (by first | exact Nat.le_refl _ | (simp; done) | (simp; omega) | omega) _ | refine Below.setCell ?_ (by first | exact Nat.le_refl _ | (simp; done) | (simp; omega) | omega) _ | refine bExtW ?_ (by first | exact Nat.le_refl _ | (simp; done) | (simp; omega) | omega) | refine Below.trans ?_ (Below.mono (by assumption) (by first | exact Nat.le_refl _ | (simp; done) | (simp; omega) | omega))))) HR2.out.lt, HX2.out.then ((show Below w2.heap.size w2 (extW w2 E8 d8) from (by repeat (first | exact Below.refl _ _ | refine Below.drew ?_ | refine below_drewN ?_ _ | refine Below.alloc ?_ (by first | exact Nat.le_refl _ | (simp; done) | (simp; omega) | omega) _ | refine Below.setCell ?_ (by first | exact Nat.le_refl _ | (simp; done) | (simp; omega) | omega) _ | refine bExtW ?_ (by first | exact Nat.le_refl _ | (simp; done) | (simp; omega) | omega) | refine Below.trans ?_ (Below.mono (by assumption) (by first | exact Nat.le_refl _ | (simp; done) | (simp; omega) | omega))))).mono HX2.out.size)⟩
                case measure => simp [intOf]; omega
      · obtain rfl : M = k := by omega
        obtain ⟨_, _, hbw⟩ := HFA.out _ hX
        have hall : ∀ s, s < N → wr.cell? ⟨db, s, none⟩ = some (.bool true) := fun s hs => by
          rw [hrow.cell hs]
          congr 2
          rw [show (heads N ab).take M = heads N ab from List.take_of_length_le (by rw [HMH.out]; exact Nat.le_refl _)]
          exact dn_all HBd.out hs
        have HALL := Lib.hid hall
        have HBW := Lib.hid hbw
        have ldb : LtW db wr := hrow.lt
        clear hown hrow hX hall hbw
        go_wp2_with fail
        go_loopw [100] (fun i wq => ∃ s : Nat, s ≤ N ∧ i = .int .i64 s ∧ wq = wr) (fun i _ => N - (intOf i).toNat)
        case atStart => exact ⟨0, Nat.zero_le _, rfl, rfl⟩
        case round =>
          obtain ⟨s, hs, rfl, rfl⟩ := hrel
          by_cases hsN : s < N
          · have c0 := HALL.out s hsN
            go_wp2
            go_roundw
            case rel => exact ⟨s + 1, by omega, by go_num, trivial⟩
            case measure => simp [intOf]; omega
          · go_wp2
            go_ret
            exact ⟨rfl, HBW.out⟩
  · have HLa := Lib.hid (fun w => Layers_bad W H a n c w h1 h2 h3 he)
    have hne : (wrC W H n != 0) = true := by simpa using he
    clear hi hz he
    generalize wrC W H n = q at *
    go_enter Try.func7, Try.ntmps7
    (go_wp2_with fail; refine (alive8_any _).mono ?_; rintro r w1 ⟨rfl, hb⟩; obtain ⟨E, d, rfl⟩ := bExt hb; clear hb)
    (go_wp2_with fail; refine (HLa.out _).mono ?_; rintro r w1 ⟨rfl, hb⟩; obtain ⟨E, d, rfl⟩ := bExt hb; clear hb)
    go_wp2
    go_ret
    exact ⟨rfl, (by repeat (first | exact Below.refl _ _ | refine Below.drew ?_ | refine below_drewN ?_ _ | refine Below.alloc ?_ (by first | exact Nat.le_refl _ | (simp; done) | (simp; omega) | omega) _ | refine Below.setCell ?_ (by first | exact Nat.le_refl _ | (simp; done) | (simp; omega) | omega) _ | refine bExtW ?_ (by first | exact Nat.le_refl _ | (simp; done) | (simp; omega) | omega) | refine Below.trans ?_ (Below.mono (by assumption) (by first | exact Nat.le_refl _ | (simp; done) | (simp; omega) | omega))))⟩
end Go.Proofs.Ytikddfjickkhhaa
