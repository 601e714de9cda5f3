/- Chapter 10: a workshop beats a row; it tells its loom an event. -/
import Derived.Test.YtefmlepogpjhmaaOn3
import Derived.Test.YtefmlepogpjhmaaTwoG
namespace Go.Proofs.Ytefmlepogpjhmaa
open Go.RowKit
set_option linter.unusedVariables false
set_option linter.unusedSimpArgs false
open Lm
theorem okRows : ElemOk 40 22 1 24 (.slice none 0 0) := ⟨Try.underlying40, by kernel_rfl, rfl, by omega⟩
section
variable {bd g cp a wb base : Nat} {W H : Nat} {A' : Option Addr} {n c' : Nat} {bs : List Bool} {x : WS} {rv v : Value} {EX : World → Prop} {w0 w w' : World}
set_option maxRecDepth 100000 in
set_option maxHeartbeats 8000000 in
theorem beat_ok (h : LW bd g cp a wb base W H A' n c' bs x rv v EX w0 w) (hn : x.rows.length ≤ 100000) (hb : base ≤ w.heap.size) :
    Calls Try.prog 22 #[.pointer (some ⟨wb, 0, none⟩)] w fun e w' => e = .returned (.tuple #[]) ∧ ∃ v', LW bd g cp a wb base W H A' n c' bs (beatW x) rv v' EX w0 w' := by
  obtain ⟨RA, RC, rfl, _⟩ := h.row.bools
  obtain ⟨RN, hRN⟩ : ∃ k, x.row.length = k := ⟨_, rfl⟩
  rw [hRN] at h ⊢
  clear hRN
  obtain ⟨vs, ho, hr⟩ := h.rows
  have HH := Lib.hid h; have HO := Lib.hid ho; have HR := Lib.hid hr
  have k0 : (w).cell? ⟨wb, 0, none⟩ = some (.pointer (some ⟨a, 0, none⟩)) := (h).ws.cell (i := 0) (by omega)
  have k1 : (w).cell? ⟨wb, 1, none⟩ = some (.int .i64 ((x).todo)) := (h).ws.cell (i := 1) (by omega)
  have k2 : (w).cell? ⟨wb, 2, none⟩ = some (.bool (x).up) := (h).ws.cell (i := 2) (by omega)
  have k3 : (w).cell? ⟨wb, 3, none⟩ = some (.bool (x).thr) := (h).ws.cell (i := 3) (by omega)
  have k4 : (w).cell? ⟨wb, 4, none⟩ = some (.slice RA RN RC) := (h).ws.cell (i := 4) (by omega)
  have k5 : (w).cell? ⟨wb, 5, none⟩ = some v := (h).ws.cell (i := 5) (by omega)
  have k6 : (w).cell? ⟨wb, 6, none⟩ = some (.bool (x).bad) := (h).ws.cell (i := 6) (by omega)
  have fk0 := (h).ws.frozen 0
  have fk1 := (h).ws.frozen 1
  have fk2 := (h).ws.frozen 2
  have fk3 := (h).ws.frozen 3
  have fk4 := (h).ws.frozen 4
  have fk5 := (h).ws.frozen 5
  have fk6 := (h).ws.frozen 6
  have lwb : LtW wb w := (h).ws.lt
  clear h ho hr
  go_enter Try.func22, Try.ntmps22
  refine wp_region_HS (fun _ => True) (by kernel_rfl) ?_
  (refine anyH_takeS (i := 0) rfl (by kernel_rfl) (fun _ _ _ _ h => h) trivial (fun K hK => ?_); go_simp; first | refine hK _ ?_ | refine ⟨_, fun _ _ => rfl, hK _ ?_⟩; clear hK K)
  (refine anyH_takeS (i := 1) rfl (by kernel_rfl) (fun _ _ _ _ h => h) trivial (fun K hK => ?_); go_simp; first | refine hK _ ?_ | refine ⟨_, fun _ _ => rfl, hK _ ?_⟩; clear hK K)
  (refine anyH_takeS (i := 2) rfl (by kernel_rfl) (fun _ _ _ _ h => h) trivial (fun K hK => ?_); go_simp; first | refine hK _ ?_ | refine ⟨_, fun _ _ => rfl, hK _ ?_⟩; clear hK K)
  (refine anyH_takeS (i := 3) rfl (by kernel_rfl) (fun _ _ _ _ h => h) trivial (fun K hK => ?_); go_simp; first | refine hK _ ?_ | refine ⟨_, fun _ _ => rfl, hK _ ?_⟩; clear hK K)
  (refine anyH_takeS (i := 5) rfl (by kernel_rfl) (fun _ _ _ _ h => h) trivial (fun K hK => ?_); go_simp; first | refine hK _ ?_ | refine ⟨_, fun _ _ => rfl, hK _ ?_⟩; clear hK K)
  (refine anyH_takeS (i := 6) rfl (by kernel_rfl) (fun _ _ _ _ h => h) trivial (fun K hK => ?_); go_simp; first | refine hK _ ?_ | refine ⟨_, fun _ _ => rfl, hK _ ?_⟩; clear hK K)
  (refine anyH_takeS (i := 7) rfl (by kernel_rfl) (fun _ _ _ _ h => h) trivial (fun K hK => ?_); go_simp; first | refine hK _ ?_ | refine ⟨_, fun _ _ => rfl, hK _ ?_⟩; clear hK K)
  refine anyH_two (A := [4]) (B := [8, 9]) (g := 4) (by kernel_rfl) (by kernel_rfl) [6, 10, 11] (fun i j b w9 => Below w.heap.size w w9 ∧ (1 ≤ i → b.tmps.getD 6 undef = v) ∧ (1 ≤ j → b.tmps.getD 10 undef = .slice RA RN RC) ∧ (2 ≤ j → ∃ B, b.tmps.getD 11 undef = .slice (some ⟨B, 0, none⟩) 1 1 ∧ w9.cell? ⟨B, 0, none⟩ = some (.slice RA RN RC) ∧ B < w9.heap.size)) ?_ ?_ trivial ⟨(Below.refl _ _).drew, fun h => absurd h (by omega), fun h => absurd h (by omega), fun h => absurd h (by omega)⟩ ?_
  · intro i j b w9 hi hj hs9 _ hR
    obtain ⟨hw9, hA, hB, hC⟩ := hR
    have hsz : b.tmps.size = 15 := hs9.size
    have hi0 : i = 0 := by simp at hi; omega
    subst hi0
    have p5 := bCs hw9 k5
    have l9 : LtW wb w9 := World.block_lt_of_cell? _ _ p5
    have h5 : b.tmps.getD 5 undef = .pointer (some ⟨wb, 5, none⟩) := hs9.get (k := 5) (by decide)
    rw [Array.getD_eq_getD_getElem?] at h5
    refine wpOp_go (i := 4) rfl rfl (fun K hK => ?_)
    have HSZ := Lib.hid hsz; have HS9 := Lib.hid hs9; have HW9 := Lib.hid hw9; have HK := Lib.hid hK; have HBB := Lib.hid hB; have HCC := Lib.hid hC
    clear hsz hs9 hw9 hK hA hB hC
    go_simp
    refine HK.out (b.put (some 6) v) w9 ⟨HS9.out.put (by decide) _, trivial, HW9.out, fun _ => put_at (by rw [HSZ.out]; decide), fun h => by rw [put_off (by decide)]; exact HBB.out h, fun h => by rw [put_off (by decide)]; exact HCC.out h⟩
  · intro i j b w9 hi hj hs9 _ hR
    obtain ⟨hw9, hA, hB, hC⟩ := hR
    have hsz : b.tmps.size = 15 := hs9.size
    have hj2 : j = 0 ∨ j = 1 := by simp at hj; omega
    rcases hj2 with rfl | rfl
    · have p4 := bCs hw9 k4
      have l9 : LtW wb w9 := World.block_lt_of_cell? _ _ p4
      have h9 : b.tmps.getD 9 undef = .pointer (some ⟨wb, 4, none⟩) := hs9.get (k := 9) (by decide)
      rw [Array.getD_eq_getD_getElem?] at h9
      refine wpOp_go (i := 8) rfl rfl (fun K hK => ?_)
      have HSZ := Lib.hid hsz; have HS9 := Lib.hid hs9; have HW9 := Lib.hid hw9; have HK := Lib.hid hK; have HAA := Lib.hid hA
      clear hsz hs9 hw9 hK hA hB hC
      go_simp
      refine HK.out (b.put (some 10) (.slice RA RN RC)) w9 ⟨HS9.out.put (by decide) _, trivial, HW9.out, fun h => by rw [put_off (by decide)]; exact HAA.out h, fun _ => put_at (by rw [HSZ.out]; decide), fun h => absurd h (by omega)⟩
    · have h10 := hB (by omega)
      have H10 := Lib.hid h10
      rw [Array.getD_eq_getD_getElem?] at h10
      have hba : Below w9.heap.size w9 (w9.alloc (.cells #[.slice RA RN RC] 22)) := Below.alloc (Below.refl _ _) (Nat.le_refl _) _
      refine wpOp_go (i := 9) rfl rfl (fun K hK => ?_)
      have HSZ := Lib.hid hsz; have HS9 := Lib.hid hs9; have HW9 := Lib.hid hw9; have HK := Lib.hid hK; have HAA := Lib.hid hA
      clear hsz hs9 hw9 hK hA hB hC
      go_simp
      refine HK.out (b.put (some 11) (.slice (some ⟨w9.heap.size, 0, none⟩) 1 1)) _ ⟨HS9.out.put (by decide) _, trivial, HW9.out.trans (hba.mono HW9.out.size), fun h => by rw [put_off (by decide)]; exact HAA.out h, fun _ => by rw [put_off (by decide)]; exact H10.out, fun _ => ⟨w9.heap.size, put_at (by rw [HSZ.out]; decide), by simp, by simp⟩⟩
  intro b w9 hs9 _ hR
  obtain ⟨hw9, hA, hB, hC⟩ := hR
  have e6 := hA (by simp)
  have e10 := hB (by simp)
  obtain ⟨B, e11, hcB, hlB⟩ := hC (by simp)
  have hf := hs9.form
  simp only [List.foldl_cons, List.foldl_nil] at hf
  rw [e6, e10, e11] at hf
  have HW9 := Lib.hid hw9; have HCB := Lib.hid hcB
  clear hs9 hA hB hC e6 e10 e11 hw9 hcB
  subst hf
  refine anyH_one (i := 10) (by kernel_rfl) ?_
  refine app_opG okRows (i := 10) rfl rfl (.tmp 6) (.tmp 11) rfl 12 rfl x.rows.length vs [.slice RA RN RC] (some ⟨B, 0, none⟩) 1 1 (ownBelow HO.out HW9.out) rfl (fun e => by cases e) rfl (fun _ => ⟨B, 0, rfl, fun j u hju => ?_⟩) (fun u hu => by simp at hu; subst hu; rfl) (by omega) (by omega) (Nat.le_trans hb HW9.out.size) ?_
  · have hj0 : j = 0 := by
      have := (List.getElem?_eq_some_iff.1 hju).1
      simpa using this
    subst hj0
    simp at hju
    subst hju
    exact HCB.out
  · intro v' w' h1 h2 h3 h4
    obtain ⟨A9, C9, rfl⟩ := own_form h1
    have HLW := Lib.hid (HH.out.beat HO.out HR.out HW9.out h1 h2)
    have hk : TyK (fun t => Nat.beq t 22) w w' := (TyK.below HW9.out).trans (TyK.grown h2 (ownBelow HO.out HW9.out) rfl)
    have hws := hk.row HH.out.ws rfl
    have k5' : w'.cell? ⟨wb, 5, none⟩ = some v := hws.cell (i := 5) (by omega)
    have fk5' := hws.frozen 5
    have l5 : LtW wb w' := hws.lt
    refine ⟨trivial, ?_⟩
    clear h1 h2 h3 h4 hk hws k0 k1 k2 k3 k4 k5 k6 fk0 fk1 fk2 fk3 fk4 fk5 fk6 lwb
    (refine anyH_takeS (i := 11) rfl (by kernel_rfl) (fun _ _ _ _ h => h) trivial (fun K hK => ?_); go_simp; first | refine hK _ ?_ | refine ⟨_, fun _ _ => rfl, hK _ ?_⟩; clear hK K)
    (refine anyH_takeS (i := 12) rfl (by kernel_rfl) (fun _ _ _ _ h => h) trivial (fun K hK => ?_); go_simp; first | refine hK _ ?_ | refine ⟨_, fun _ _ => rfl, hK _ ?_⟩; clear hK K)
    refine anyH_one (i := 13) (by kernel_rfl) ?_
    refine wpOp_go (i := 13) rfl rfl (fun K hK => ?_)
    go_simp
    refine hK _ _ ⟨trivial, ?_⟩
    clear hK K
    refine wpAnyH_done (by kernel_rfl) ?_ _
    go_wp2
    go_end0
    exact ⟨rfl, _, HLW.out⟩
theorem LW.store1 (h : LW bd g cp a wb base W H A' n c' bs x rv v EX w0 w) (i : Nat) (u : Value) (x' : WS) (hf : ∀ j, j < 7 → (if j = i then u else wkF a rv v x j) = wkF a rv v x' j) (hl : x'.l = x.l) (hd : x'.d = x.d) (hrow : x'.row = x.row) (hrows : x'.rows = x.rows) : LW bd g cp a wb base W H A' n c' bs x' rv v EX w0 (w.setCell ⟨wb, i, none⟩ u) :=
  h.store hf hl hd (by rw [hrow]; exact h.row) hrows
def tellR (R : Int × Int × St × Dk) (x : WS) : WS :=
  if R.2.1 ≠ 0 ∨ R.1 = 0 then { x with l := R.2.2.1, d := R.2.2.2 }
  else if R.1 = 1 then { x with l := R.2.2.1, d := R.2.2.2, todo := 1, up := false, thr := false }
  else if R.1 = 2 then { x with l := R.2.2.1, d := R.2.2.2, todo := 2, bad := x.bad || !x.up }
  else if R.1 = 3 then { x with l := R.2.2.1, d := R.2.2.2, todo := 3, bad := x.bad || !x.up || !x.thr }
  else { x with l := R.2.2.1, d := R.2.2.2, todo := R.1 }
theorem tellW_eq (H : Nat) (ev : Int) (x : WS) : tellW H ev x = tellR (tell H ev x.l x.d) x := rfl
theorem wk7 {f g : Nat → Value} (h0 : f 0 = g 0) (h1 : f 1 = g 1) (h2 : f 2 = g 2) (h3 : f 3 = g 3) (h4 : f 4 = g 4) (h5 : f 5 = g 5) (h6 : f 6 = g 6) : ∀ j, j < 7 → f j = g j := by
  intro j hj
  have hj2 : j = 0 ∨ j = 1 ∨ j = 2 ∨ j = 3 ∨ j = 4 ∨ j = 5 ∨ j = 6 := by omega
  rcases hj2 with rfl | rfl | rfl | rfl | rfl | rfl | rfl
  · exact h0
  · exact h1
  · exact h2
  · exact h3
  · exact h4
  · exact h5
  · exact h6
set_option maxRecDepth 100000 in
set_option maxHeartbeats 8000000 in
theorem tell_ok (h : LW bd g cp a wb base W H A' n c' bs x rv v EX w0 w) (ev : Int) (h2 : 2 ≤ x.d.ws.length) (hl : x.d.ws.length ≤ 9223372036854775807) (hw : x.l.wv ≤ 64) :
    Calls Try.prog 23 #[.pointer (some ⟨wb, 0, none⟩), .int .i64 (ev)] w fun e w' => e = .returned (.tuple #[]) ∧ LW bd g cp a wb base W H A' n c' bs (tellW H ev x) rv v EX w0 w' := by
  have HDO := Lib.hid (Do_any a bd g cp W H (.slice A' n c') ev x.l x.d w h.lm h.d h2 hl hw)
  have HH := Lib.hid h
  rw [tellW_eq]
  generalize tell H ev x.l x.d = R at *
  obtain ⟨T, hT⟩ : ∃ T, tellR R x = T := ⟨_, rfl⟩
  rw [hT]
  have HT := Lib.hid hT
  clear hT
  have k0 : (w).cell? ⟨wb, 0, none⟩ = some (.pointer (some ⟨a, 0, none⟩)) := (h).ws.cell (i := 0) (by omega)
  have k1 : (w).cell? ⟨wb, 1, none⟩ = some (.int .i64 ((x).todo)) := (h).ws.cell (i := 1) (by omega)
  have k2 : (w).cell? ⟨wb, 2, none⟩ = some (.bool (x).up) := (h).ws.cell (i := 2) (by omega)
  have k3 : (w).cell? ⟨wb, 3, none⟩ = some (.bool (x).thr) := (h).ws.cell (i := 3) (by omega)
  have k4 : (w).cell? ⟨wb, 4, none⟩ = some (rv) := (h).ws.cell (i := 4) (by omega)
  have k5 : (w).cell? ⟨wb, 5, none⟩ = some v := (h).ws.cell (i := 5) (by omega)
  have k6 : (w).cell? ⟨wb, 6, none⟩ = some (.bool (x).bad) := (h).ws.cell (i := 6) (by omega)
  have fk0 := (h).ws.frozen 0
  have fk1 := (h).ws.frozen 1
  have fk2 := (h).ws.frozen 2
  have fk3 := (h).ws.frozen 3
  have fk4 := (h).ws.frozen 4
  have fk5 := (h).ws.frozen 5
  have fk6 := (h).ws.frozen 6
  have lwb : LtW wb w := (h).ws.lt
  clear h
  go_enter Try.func23, Try.ntmps23
  go_wp2_with fail
  refine HDO.out.mono ?_
  rintro r w1 ⟨rfl, hm1, hd1, hk1⟩
  have h1 := HH.out.told hm1 hd1 hk1
  have HX1 := Lib.hid h1
  clear hm1 hd1 hk1 HDO HH k0 k1 k2 k3 k4 k5 k6 fk0 fk1 fk2 fk3 fk4 fk5 fk6 lwb
  have k0 : (w1).cell? ⟨wb, 0, none⟩ = some (.pointer (some ⟨a, 0, none⟩)) := (h1).ws.cell (i := 0) (by omega)
  have k1 : (w1).cell? ⟨wb, 1, none⟩ = some (.int .i64 ((x).todo)) := (h1).ws.cell (i := 1) (by omega)
  have k2 : (w1).cell? ⟨wb, 2, none⟩ = some (.bool (x).up) := (h1).ws.cell (i := 2) (by omega)
  have k3 : (w1).cell? ⟨wb, 3, none⟩ = some (.bool (x).thr) := (h1).ws.cell (i := 3) (by omega)
  have k4 : (w1).cell? ⟨wb, 4, none⟩ = some (rv) := (h1).ws.cell (i := 4) (by omega)
  have k5 : (w1).cell? ⟨wb, 5, none⟩ = some v := (h1).ws.cell (i := 5) (by omega)
  have k6 : (w1).cell? ⟨wb, 6, none⟩ = some (.bool (x).bad) := (h1).ws.cell (i := 6) (by omega)
  have fk0 := (h1).ws.frozen 0
  have fk1 := (h1).ws.frozen 1
  have fk2 := (h1).ws.frozen 2
  have fk3 := (h1).ws.frozen 3
  have fk4 := (h1).ws.frozen 4
  have fk5 := (h1).ws.frozen 5
  have fk6 := (h1).ws.frozen 6
  have lwb : LtW wb w1 := (h1).ws.lt
  clear h1
  obtain ⟨o, er, l1, d1⟩ := R
  simp only at HX1
  by_cases he : er = 0
  · subst he
    by_cases ho : o = 0
    · subst ho
      have e : tellR (0, 0, l1, d1) x = { x with l := l1, d := d1 } := by unfold tellR; simp
      have HE := Lib.hid e
      clear e
      go_wp2
      refine bodyPost_ret (results_none rfl _ _ _) rfl ?_
      refine ⟨rfl, ?_⟩
      rw [← HT.out, HE.out]
      exact HX1.out
    · have b0 : (o == 0) = false := by simpa using ho
      by_cases h1 : o = 1
      · subst h1
        have e : tellR (1, 0, l1, d1) x = { x with l := l1, d := d1, todo := 1, up := false, thr := false } := by unfold tellR; simp
        have HE := Lib.hid e
        clear e
        go_wp2
        go_end0
        refine ⟨rfl, ?_⟩
        rw [← HT.out, HE.out]
        exact ((HX1.out.store1 1 (.int .i64 (1)) { x with l := l1, d := d1, todo := 1 } (wk7 rfl rfl rfl rfl rfl rfl rfl) rfl rfl rfl rfl).store1 2 (.bool false) { x with l := l1, d := d1, todo := 1, up := false } (wk7 rfl rfl rfl rfl rfl rfl rfl) rfl rfl rfl rfl).store1 3 (.bool false) { x with l := l1, d := d1, todo := 1, up := false, thr := false } (wk7 rfl rfl rfl rfl rfl rfl rfl) rfl rfl rfl rfl
      · have b1 : (o == 1) = false := by simpa using h1
        by_cases h2 : o = 2
        · subst h2
          have e : tellR (2, 0, l1, d1) x = { x with l := l1, d := d1, todo := 2, bad := x.bad || !x.up } := by unfold tellR; simp
          obtain ⟨bb, hbb⟩ : ∃ b, x.bad = b := ⟨_, rfl⟩
          obtain ⟨bu, hbu⟩ : ∃ b, x.up = b := ⟨_, rfl⟩
          skip
          have HBB := Lib.hid hbb; have HBU := Lib.hid hbu
          rw [hbb] at k6
          rw [hbu] at k2
          clear hbb hbu
          cases bb with
          | true =>
            have HE := Lib.hid e
            clear e
            go_wp2
            go_end0
            refine ⟨rfl, ?_⟩
            rw [← HT.out, HE.out, show (x.bad || !x.up) = true by rw [HBB.out]; rfl]
            exact (HX1.out.store1 1 (.int .i64 (2)) { x with l := l1, d := d1, todo := 2 } (wk7 rfl rfl rfl rfl rfl rfl rfl) rfl rfl rfl rfl).store1 6 (.bool true) { x with l := l1, d := d1, todo := 2, bad := true } (wk7 rfl rfl rfl rfl rfl rfl rfl) rfl rfl rfl rfl
          | false =>
            have HE := Lib.hid e
            clear e
            go_wp2
            go_end0
            refine ⟨rfl, ?_⟩
            rw [← HT.out, HE.out, show (x.bad || !x.up) = !bu by rw [HBB.out, HBU.out]; rfl]
            exact (HX1.out.store1 1 (.int .i64 (2)) { x with l := l1, d := d1, todo := 2 } (wk7 rfl rfl rfl rfl rfl rfl rfl) rfl rfl rfl rfl).store1 6 (.bool !bu) { x with l := l1, d := d1, todo := 2, bad := !bu } (wk7 rfl rfl rfl rfl rfl rfl rfl) rfl rfl rfl rfl
        · have b2 : (o == 2) = false := by simpa using h2
          by_cases h3 : o = 3
          · subst h3
            have e : tellR (3, 0, l1, d1) x = { x with l := l1, d := d1, todo := 3, bad := x.bad || !x.up || !x.thr } := by unfold tellR; simp
            obtain ⟨bb, hbb⟩ : ∃ b, x.bad = b := ⟨_, rfl⟩
            obtain ⟨bu, hbu⟩ : ∃ b, x.up = b := ⟨_, rfl⟩
            obtain ⟨bt, hbt⟩ : ∃ b, x.thr = b := ⟨_, rfl⟩
            skip
            have HBB := Lib.hid hbb; have HBU := Lib.hid hbu; have HBT := Lib.hid hbt
            rw [hbb] at k6
            rw [hbu] at k2
            rw [hbt] at k3
            clear hbb hbu hbt
            cases bb with
            | true =>
              have HE := Lib.hid e
              clear e
              go_wp2
              go_end0
              refine ⟨rfl, ?_⟩
              rw [← HT.out, HE.out, show (x.bad || !x.up || !x.thr) = true by rw [HBB.out]; rfl]
              exact (HX1.out.store1 1 (.int .i64 (3)) { x with l := l1, d := d1, todo := 3 } (wk7 rfl rfl rfl rfl rfl rfl rfl) rfl rfl rfl rfl).store1 6 (.bool true) { x with l := l1, d := d1, todo := 3, bad := true } (wk7 rfl rfl rfl rfl rfl rfl rfl) rfl rfl rfl rfl
            | false =>
              cases bu with
              | false =>
                have HE := Lib.hid e
                clear e
                go_wp2
                go_end0
                refine ⟨rfl, ?_⟩
                rw [← HT.out, HE.out, show (x.bad || !x.up || !x.thr) = true by rw [HBB.out, HBU.out]; rfl]
                exact (HX1.out.store1 1 (.int .i64 (3)) { x with l := l1, d := d1, todo := 3 } (wk7 rfl rfl rfl rfl rfl rfl rfl) rfl rfl rfl rfl).store1 6 (.bool true) { x with l := l1, d := d1, todo := 3, bad := true } (wk7 rfl rfl rfl rfl rfl rfl rfl) rfl rfl rfl rfl
              | true =>
                have HE := Lib.hid e
                clear e
                go_wp2
                go_end0
                refine ⟨rfl, ?_⟩
                rw [← HT.out, HE.out, show (x.bad || !x.up || !x.thr) = !bt by rw [HBB.out, HBU.out, HBT.out]; rfl]
                exact (HX1.out.store1 1 (.int .i64 (3)) { x with l := l1, d := d1, todo := 3 } (wk7 rfl rfl rfl rfl rfl rfl rfl) rfl rfl rfl rfl).store1 6 (.bool !bt) { x with l := l1, d := d1, todo := 3, bad := !bt } (wk7 rfl rfl rfl rfl rfl rfl rfl) rfl rfl rfl rfl
          · have b3 : (o == 3) = false := by simpa using h3
            have e : tellR (o, 0, l1, d1) x = { x with l := l1, d := d1, todo := o } := by unfold tellR; simp [ho, h1, h2, h3]
            clear ho h1 h2 h3
            have HE := Lib.hid e
            clear e
            go_wp2
            go_end0
            refine ⟨rfl, ?_⟩
            rw [← HT.out, HE.out]
            exact HX1.out.store1 1 (.int .i64 (o)) { x with l := l1, d := d1, todo := o } (wk7 rfl rfl rfl rfl rfl rfl rfl) rfl rfl rfl rfl
  · have b0 : (er == 0) = false := by simpa using he
    have b1 : (er != 0) = true := by simpa using he
    have e : tellR (o, er, l1, d1) x = { x with l := l1, d := d1 } := by unfold tellR; simp [he]
    clear he
    have HE := Lib.hid e
    clear e
    go_wp2
    refine bodyPost_ret (results_none rfl _ _ _) rfl ?_
    refine ⟨rfl, ?_⟩
    rw [← HT.out, HE.out]
    exact HX1.out
end
end Go.Proofs.Ytefmlepogpjhmaa
