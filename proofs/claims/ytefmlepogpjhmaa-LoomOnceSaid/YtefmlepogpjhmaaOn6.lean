/- Chapter 10: plain.Live. -/
import Derived.Test.YtefmlepogpjhmaaOn5
namespace Go.Proofs.Ytefmlepogpjhmaa
open Go.RowKit
set_option linter.unusedVariables false
set_option linter.unusedSimpArgs false
open Lm
def LivePost (x : WS) (w : World) (r : Ending) (w' : World) : Prop :=
  ∃ v, r = .returned (.agg #[v, .int .i64 ((x.l.at_ : Nat)), .int .i64 ((x.l.wv : Nat)), .bool x.bad]) ∧ OutR w.heap.size v x.rows w' ∧ Below w.heap.size w w'
def lvF : Nat → Value := fun j => if j = 0 then .slice none 0 0 else if j = 1 then .int .i64 0 else if j = 2 then .int .i64 0 else .bool false
theorem lvF_alloc (w : World) : (w.alloc (.cells #[.slice none 0 0, .int .i64 (0), .int .i64 (0), .bool false] 42)).rowIs w.heap.size 42 4 lvF :=
  World.rowIs_alloc w #[.slice none 0 0, .int .i64 (0), .int .i64 (0), .bool false] 42 _ (by
    intro i hi
    have hi2 : i = 0 ∨ i = 1 ∨ i = 2 ∨ i = 3 := by simp at hi; omega
    rcases hi2 with rfl | rfl | rfl | rfl <;> rfl)
/-- What Live keeps beside its workshop. -/
def EXL (mb rb ob : Nat) (W H : Nat) (bv : Value) (w : World) : Prop :=
  w.rowIs mb 24 3 (tF W H bv) ∧ w.rowIs rb 42 4 lvF ∧ w.rowIs ob 42 4 lvF
theorem EXL.keep {mb rb ob W H : Nat} {bv : Value} {w1 w2 : World} (hk : TyK TT w1 w2) (h : EXL mb rb ob W H bv w1) : EXL mb rb ob W H bv w2 :=
  ⟨hk.row h.1 rfl, hk.row h.2.1 rfl, hk.row h.2.2 rfl⟩
theorem dk_make (w : World) : DK (w.heap.size + 1) w.heap.size 2 ⟨[0, 0], -1⟩ ((w.alloc (.cells #[.int .i64 (0), .int .i64 (0)] 2)).alloc (.cells #[.slice (some ⟨w.heap.size, 0, none⟩) 2 2, .int .i64 (-1), .bool false] 48)) := by
  have hr := World.rowIs_alloc (w.alloc (.cells #[.int .i64 (0), .int .i64 (0)] 2)) #[.slice (some ⟨w.heap.size, 0, none⟩) 2 2, .int .i64 (-1), .bool false] 48 (dkF (.slice (some ⟨w.heap.size, 0, none⟩) 2 2) (-1)) (by
    intro i hi
    have hi2 : i = 0 ∨ i = 1 ∨ i = 2 := by simp at hi; omega
    rcases hi2 with rfl | rfl | rfl <;> rfl)
  rw [World.size_alloc] at hr
  have ho : (w.alloc (.cells #[.int .i64 (0), .int .i64 (0)] 2)).ownsRow 0 2 1 (.slice (some ⟨w.heap.size, 0, none⟩) 2 2) 2 [.int .i64 (0), .int .i64 (0)] :=
    own_mk rfl (Nat.zero_le _) (Nat.le_refl _) (by unfold maxLen; omega) (heap_alloc_new w _) rfl rfl
  exact ⟨hr, ownBelow ho ((Below.refl _ _).alloc (Nat.le_refl _) _), by omega, by simp, by simp only; omega⟩
/-- The workshop as it is made. -/
theorem live_start (W H : Nat) (A : Option Addr) (n c : Nat) (bs : List Bool) (w w5 : World) (a : Nat) (A' : Option Addr) (c' bd g rb mb : Nat) (hl : bs.length = n) (l0 : St) (hmb : mb < w5.heap.size) (hd : DK bd g 2 ⟨[0, 0], -1⟩ w5) (hm : LMr a bd W H (.slice A' n c') l0 w5) (hb : BoolRow w5 (.slice A' n c') bs) (hc : n ≤ c')
    (h1 : w5.rowIs mb 24 3 (tF W H (.slice A n c))) (h2 : w5.rowIs rb 42 4 lvF) (hbel : Below w.heap.size w w5) (ga : w.heap.size ≤ a) (gb : w.heap.size ≤ bd) (gg : w.heap.size ≤ g) (w7 : World)
    (e7 : w7 = (w5.alloc (.cells #[.slice none 0 0, .int .i64 (0), .int .i64 (0), .bool false] 42)).alloc (.cells #[.pointer (some ⟨a, 0, none⟩), .int .i64 (0), .bool false, .bool false, .slice none 0 0, .slice none 0 0, .bool false] 68)) :
    LW bd g 2 a (w5.heap.size + 1) w.heap.size W H A' n c' bs ⟨l0, ⟨[0, 0], -1⟩, 0, false, false, false, [], []⟩ (.slice none 0 0) (.slice none 0 0) (EXL mb rb w5.heap.size W H (.slice A n c)) w w7 := by
  subst e7
  have hb1 : Below w5.heap.size w5 ((w5.alloc (.cells #[.slice none 0 0, .int .i64 (0), .int .i64 (0), .bool false] 42)).alloc (.cells #[.pointer (some ⟨a, 0, none⟩), .int .i64 (0), .bool false, .bool false, .slice none 0 0, .slice none 0 0, .bool false] 68)) := ((Below.refl _ _).alloc (Nat.le_refl _) _).alloc (by simp) _
  have hws := World.rowIs_alloc (w5.alloc (.cells #[.slice none 0 0, .int .i64 (0), .int .i64 (0), .bool false] 42)) #[.pointer (some ⟨a, 0, none⟩), .int .i64 (0), .bool false, .bool false, .slice none 0 0, .slice none 0 0, .bool false] 68 (wkF a (.slice none 0 0) (.slice none 0 0) ⟨l0, ⟨[0, 0], -1⟩, 0, false, false, false, [], []⟩) (by
    intro i hi
    have hi2 : i = 0 ∨ i = 1 ∨ i = 2 ∨ i = 3 ∨ i = 4 ∨ i = 5 ∨ i = 6 := by simp at hi; omega
    rcases hi2 with rfl | rfl | rfl | rfl | rfl | rfl | rfl <;> rfl)
  rw [World.size_alloc] at hws
  have hk : TyK (fun _ => false) w5 _ := TyK.below hb1
  have hs := hbel.size
  exact ⟨hk.dk hd rfl rfl, hk.row hm rfl, hk.bools hb rfl, hc, hws, .inl ⟨rfl, rfl⟩, OutR.nil _ _, ⟨hk.row h1 rfl, hk.row h2 rfl, (lvF_alloc w5).alloc _⟩, fun hk h => EXL.keep hk h, hbel.trans (hb1.mono hs), ga, gb, gg, by omega, Nat.le_refl _⟩
def TL (t : Nat) : Bool := Nat.beq t 42
theorem lived4 {w : World} {k : Nat} {f : Nat → Value} (hr : w.rowIs k 42 4 f) (i1 i2 i3 i4 : Nat) (u1 u2 u3 u4 : Value) :
    TyK TL w ((((w.setCell ⟨k, i1, none⟩ u1).setCell ⟨k, i2, none⟩ u2).setCell ⟨k, i3, none⟩ u3).setCell ⟨k, i4, none⟩ u4) ∧
    ((((w.setCell ⟨k, i1, none⟩ u1).setCell ⟨k, i2, none⟩ u2).setCell ⟨k, i3, none⟩ u3).setCell ⟨k, i4, none⟩ u4).rowIs k 42 4 (fun j => if j = i4 then u4 else if j = i3 then u3 else if j = i2 then u2 else if j = i1 then u1 else f j) :=
  ⟨(((TyK.set hr rfl).trans (TyK.set (hr.set i1 u1) rfl)).trans (TyK.set ((hr.set i1 u1).set i2 u2) rfl)).trans (TyK.set (((hr.set i1 u1).set i2 u2).set i3 u3) rfl), (((hr.set i1 u1).set i2 u2).set i3 u3).set i4 u4⟩
theorem other4 {w : World} {k j : Nat} (h : j ≠ k) (i1 i2 i3 i4 : Nat) (u1 u2 u3 u4 : Value) : ((((w.setCell ⟨k, i1, none⟩ u1).setCell ⟨k, i2, none⟩ u2).setCell ⟨k, i3, none⟩ u3).setCell ⟨k, i4, none⟩ u4).heap[j]? = w.heap[j]? := by
  rw [Below.heap_setCell _ _ _ j h, Below.heap_setCell _ _ _ j h, Below.heap_setCell _ _ _ j h, Below.heap_setCell _ _ _ j h]
theorem below4 {B : Nat} {W w : World} {k : Nat} (hb : Below B W w) (h : B ≤ k) (i1 i2 i3 i4 : Nat) (u1 u2 u3 u4 : Value) : Below B W ((((w.setCell ⟨k, i1, none⟩ u1).setCell ⟨k, i2, none⟩ u2).setCell ⟨k, i3, none⟩ u3).setCell ⟨k, i4, none⟩ u4) :=
  (((hb.setCell h _).setCell h _).setCell h _).setCell h _
set_option maxRecDepth 100000 in
set_option maxHeartbeats 8000000 in
theorem Live_ok (W H : Nat) (A : Option Addr) (n c : Nat) (bs : List Bool) (TA : Option Addr) (tn tc : Nat) (ts : List Int) (w : World) (hI : IsBools w A n bs) (hw : wrT W H n = 0) (hn0 : n ≠ 0) (hT : IsInts w TA tn ts) (htn : tn ≤ 9223372036854775807) :
    Calls Try.prog 10 #[.agg #[.int .i64 (W), .int .i64 (H), .slice A n c], .slice TA tn tc] w (LivePost (liveW W H bs ts tn) w) := by
  obtain ⟨W', H', eW, eH, hW, hH, hn⟩ := wrT_zero hw
  obtain rfl : W = W' := by omega
  obtain rfl : H = H' := by omega
  have hH1 : 1 ≤ H := by
    rcases Nat.eq_zero_or_pos H with h | h
    · exfalso; apply hn0; rw [hn, h, Nat.mul_zero]
    · exact h
  have HI := Lib.hid hI; have HTS := Lib.hid hT; have HNN := Lib.hid hn; have HBL := Lib.hid hI.1
  have hmk : ∀ w, (Instr.makeSlice 25 (.int .i64 (2)) (.int .i64 (2))).run Try.prog w = .ok (.slice (some ⟨w.heap.size, 0, none⟩) 2 2) (w.alloc (.cells #[.int .i64 (0), .int .i64 (0)] 2)) := by
    have h := makeRow okI64 rfl 2 (by omega) (by omega)
    rw [show madeCells #[.int .i64 (0)] 2 = #[.int .i64 (0), .int .i64 (0)] from by kernel_rfl] at h
    exact h
  have HOP := Lib.hid (fun b g cp (D : Dk) w' h (hI : IsBools w' A n bs) (h2 : D.ws.length = 2) => Open_ok W H A n c b g cp bs D w' h hI hw hn0 (by omega) (by omega))
  clear hI hT hw eW eH hn
  go_enter Try.func10, Try.ntmps10
  go_wp2_with fail
  have hdk := dk_make ((w.alloc (.cells #[.int .i64 (W), .int .i64 (H), .slice A n c] 24)).alloc (.cells #[.slice none 0 0, .int .i64 (0), .int .i64 (0), .bool false] 42))
  have hmr := (((tF_alloc w W H (.slice A n c) rfl).alloc (.cells #[.slice none 0 0, .int .i64 (0), .int .i64 (0), .bool false] 42)).alloc (.cells #[.int .i64 (0), .int .i64 (0)] 2)).alloc (.cells #[.slice (some ⟨w.heap.size + 1 + 1, 0, none⟩) 2 2, .int .i64 (-1), .bool false] 48)
  have hrr := ((lvF_alloc (w.alloc (.cells #[.int .i64 (W), .int .i64 (H), .slice A n c] 24))).alloc (.cells #[.int .i64 (0), .int .i64 (0)] 2)).alloc (.cells #[.slice (some ⟨w.heap.size + 1 + 1, 0, none⟩) 2 2, .int .i64 (-1), .bool false] 48)
  simp only [World.size_alloc] at hdk hrr
  have hbe : Below w.heap.size w ((((w.alloc (.cells #[.int .i64 (W), .int .i64 (H), .slice A n c] 24)).alloc (.cells #[.slice none 0 0, .int .i64 (0), .int .i64 (0), .bool false] 42)).alloc (.cells #[.int .i64 (0), .int .i64 (0)] 2)).alloc (.cells #[.slice (some ⟨w.heap.size + 1 + 1, 0, none⟩) 2 2, .int .i64 (-1), .bool false] 48)) := (by repeat (first | exact Below.refl _ _ | refine Below.drew ?_ | refine below_drewN ?_ _ | refine Below.alloc ?_ (by first | exact Nat.le_refl _ | (simp; done) | (simp; omega) | omega) _ | refine Below.setCell ?_ (by first | exact Nat.le_refl _ | (simp; done) | (simp; omega) | omega) _ | refine bExtW ?_ (by first | exact Nat.le_refl _ | (simp; done) | (simp; omega) | omega) | refine Below.trans ?_ (Below.mono (by assumption) (by first | exact Nat.le_refl _ | (simp; done) | (simp; omega) | omega))))
  have HDK := Lib.hid hdk; have HMR := Lib.hid hmr; have HRR := Lib.hid hrr; have HBE := Lib.hid hbe
  refine (HOP.out _ _ _ _ _ hdk (HI.out.below hbe) rfl).mono ?_
  clear hdk hmr hrr hbe
  rintro r w5 ⟨a, A2, c2, rfl, hm5, ho5, ha5, hb5⟩
  have hb5' := HBE.out.trans (hb5.mono HBE.out.size)
  have HMR5 := Lib.hid (rowBelow HMR.out hb5 HMR.out.lt); have HRR5 := Lib.hid (rowBelow HRR.out hb5 HRR.out.lt); have HDK5 := Lib.hid (HDK.out.keep (a1 := 0) hb5)
  have HB5 := Lib.hid hb5'; have HM5 := Lib.hid hm5; have HO5 := Lib.hid (BoolRow.of_own (by rw [HBL.out]; exact ho5) : BoolRow w5 (.slice A2 bs.length c2) bs); have HLE := Lib.hid (own_le ho5); have HA5 := Lib.hid (Nat.le_trans HBE.out.size ha5)
  clear hb5 hb5' hm5 ho5 ha5 HDK HMR HRR HBE
  go_upto_region 7 with fail
  have hmlt : w.heap.size < w5.heap.size := HMR5.out.lt
  have HRB := Lib.hid (⟨HRR5.out.lt, by omega⟩ : w.heap.size + 1 < w5.heap.size ∧ w.heap.size ≤ w.heap.size + 1)
  have hlw := live_start W H A n c bs w w5 a A2 c2 (w.heap.size + 1 + 1 + 1) (w.heap.size + 1 + 1) (w.heap.size + 1) w.heap.size HBL.out (begin_ H [0, 0]) hmlt HDK5.out HM5.out (by have h := HO5.out; rw [HBL.out] at h; exact h) HLE.out HMR5.out HRR5.out HB5.out HA5.out (by omega) (by omega) _ rfl
  have HLW : Hid (LW (w.heap.size + 1 + 1 + 1) (w.heap.size + 1 + 1) 2 a (w5.heap.size + 1) w.heap.size W H A2 n c2 bs (liveW W H bs ts 0) (.slice none 0 0) (.slice none 0 0) (EXL w.heap.size (w.heap.size + 1) w5.heap.size W H (.slice A n c)) w _) := Lib.hid hlw
  clear hlw HDK5 HM5 HO5 HLE HMR5 HRR5 HB5 HA5
  generalize (w5.alloc (.cells #[.slice none 0 0, .int .i64 (0), .int .i64 (0), .bool false] 42)).alloc (.cells #[.pointer (some ⟨a, 0, none⟩), .int .i64 (0), .bool false, .bool false, .slice none 0 0, .slice none 0 0, .bool false] 68) = w7 at *
  generalize w5.heap.size + 1 = wb at *
  generalize w5.heap.size = ob at *
  generalize w.heap.size + 1 + 1 + 1 = bd at *
  generalize w.heap.size + 1 + 1 = g at *
  generalize w.heap.size + 1 = rb at *
  have HINV := Lib.hid (fun k => liveW_inv (W := W) (bs := bs) ts hH1 k)
  clear hmlt hmk
  go_wp2_with fail
  go_loopw [7, 33] (fun ev iv wr => ∃ k : Nat, k ≤ tn ∧ iv = .int .i64 k ∧ ev = .int .i64 0 ∧ Hid (∃ a A' c' rv v, LW bd g 2 a wb w.heap.size W H A' n c' bs (liveW W H bs ts k) rv v (EXL w.heap.size rb ob W H (.slice A n c)) w wr)) (fun _ iv _ => tn - (intOf iv).toNat)
  case atStart => exact ⟨0, by omega, rfl, rfl, Lib.hid ⟨_, _, _, _, _, HLW.out⟩⟩
  case round =>
    clear HLW
    obtain ⟨k, hk, rfl, rfl, HX⟩ := hrel
    by_cases hkn : k < tn
    · obtain ⟨a, A', c', rv, v, hlw⟩ := HX.out
      clear HX
      have hinv := HINV.out k
      have HSUC : Hid (liveW W H bs ts (k + 1) = turnW W H bs (ts.getD k 0) (liveW W H bs ts k)) := Lib.hid rfl
      obtain ⟨bT, oT, eT, hbT, hcT⟩ := (HTS.out.below (show Below w.heap.size w wr from hlw.bel)).2 (by omega)
      have ct := hcT k hkn
      subst eT
      have lbT : LtW bT wr := hbT
      generalize ts.getD k 0 = t at *
      generalize liveW W H bs ts k = x at *
      obtain ⟨nn, hrn, hrH, _, _⟩ := hinv.first
      have hrl : x.rows.length ≤ 64 := by rw [hrn, firstR_len]; omega
      obtain ⟨w1_, hws, _, _⟩ := hinv.ws
      have hd2 : x.d.ws.length = 2 := by rw [hws]; rfl
      have hwv : x.l.wv ≤ 64 := by have := hinv.ok.w; omega
      have hat : x.l.at_ ≤ 6 := hinv.ok.a
      have HLT := Lib.hid hinv.ok.lt
      have dk : decide ((k : Int) < (tn : Int)) = true := by simp; omega
      have dk' : decide (k < tn) = true := by simpa using hkn
      have HL := Lib.hid hlw
      clear hinv hrn hrH hws hcT hbT
      by_cases t1 : t = 1
      · subst t1
        have HE : Hid (turnW W H bs 1 x = { x with d := { x.d with left := 0 } }) := Lib.hid (by unfold turnW; rw [if_pos rfl])
        have c1 := hlw.d.cells.2.1
        have fc1 := hlw.d.row.frozen 1
        have lbd : LtW bd wr := hlw.d.row.lt
        clear hlw
        go_wp2
        go_roundw
        case rel => exact ⟨k + 1, by omega, by go_num, rfl, Lib.hid ⟨_, _, _, _, _, by rw [HSUC.out, HE.out]; exact HL.out.power 0 (by omega)⟩⟩
        case measure => simp [intOf]; omega
      · have b1 : (t == 1) = false := by simpa using t1
        by_cases t23 : t = 2 ∨ t = 3
        · by_cases hb : x.todo = 3 ∧ t = 2
          · obtain ⟨htd, rfl⟩ := hb
            have HE : Hid (turnW W H bs 2 x = openW H (beatW x)) := Lib.hid (by unfold turnW; rw [if_neg (by omega), if_pos (.inl rfl), if_pos ⟨htd, rfl⟩])
            have k0 : (wr).cell? ⟨wb, 0, none⟩ = some (.pointer (some ⟨a, 0, none⟩)) := (hlw).ws.cell (i := 0) (by omega)
            have k1 : (wr).cell? ⟨wb, 1, none⟩ = some (.int .i64 ((x).todo)) := (hlw).ws.cell (i := 1) (by omega)
            have k2 : (wr).cell? ⟨wb, 2, none⟩ = some (.bool (x).up) := (hlw).ws.cell (i := 2) (by omega)
            have k3 : (wr).cell? ⟨wb, 3, none⟩ = some (.bool (x).thr) := (hlw).ws.cell (i := 3) (by omega)
            have k4 : (wr).cell? ⟨wb, 4, none⟩ = some (rv) := (hlw).ws.cell (i := 4) (by omega)
            have k5 : (wr).cell? ⟨wb, 5, none⟩ = some v := (hlw).ws.cell (i := 5) (by omega)
            have k6 : (wr).cell? ⟨wb, 6, none⟩ = some (.bool (x).bad) := (hlw).ws.cell (i := 6) (by omega)
            have fk0 := (hlw).ws.frozen 0
            have fk1 := (hlw).ws.frozen 1
            have fk2 := (hlw).ws.frozen 2
            have fk3 := (hlw).ws.frozen 3
            have fk4 := (hlw).ws.frozen 4
            have fk5 := (hlw).ws.frozen 5
            have fk6 := (hlw).ws.frozen 6
            have lwb : LtW wb wr := (hlw).ws.lt
            rw [htd] at k1
            clear hlw t1 t23
            go_wp2_with fail
            refine (beat_ok HL.out (by omega) HL.out.bel.size).mono ?_
            rintro r wx ⟨rfl, v2, hx2⟩
            have HL2 := Lib.hid hx2
            obtain ⟨y, hy⟩ : ∃ y, beatW x = y := ⟨_, rfl⟩
            have HYD : Hid (y.d.ws.length = 2) := Lib.hid (by rw [← hy]; exact hd2)
            rw [hy] at HL2 HE
            have hlw := HL2.out
            clear HL hx2 hy htd hd2 hwv hat hrl
            clear k0 k1 k2 k3 k4 k5 k6 fk0 fk1 fk2 fk3 fk4 fk5 fk6 lwb
            have c1 := HL2.out.d.cells.2.1
            have fc1 := HL2.out.d.row.frozen 1
            have lbd : LtW bd wx := HL2.out.d.row.lt
            go_upto_region 19 with fail
            have hp := HL2.out.power (-1) (by omega)
            have HP := Lib.hid hp
            have q0 := hp.ex.1.cell (i := 0) (by omega)
            have q1 := hp.ex.1.cell (i := 1) (by omega)
            have q2 := hp.ex.1.cell (i := 2) (by omega)
            have lmb := hp.ex.1.lt
            clear c1 fc1 lbd hp HL2
            generalize (wx).setCell ⟨bd, 1, none⟩ (.int .i64 (-1)) = wp at *
            have q0 : wp.cell? ⟨w.heap.size, 0, none⟩ = some (.int .i64 (W)) := q0
            have q1 : wp.cell? ⟨w.heap.size, 1, none⟩ = some (.int .i64 (H)) := q1
            have q2 : wp.cell? ⟨w.heap.size, 2, none⟩ = some (.slice A n c) := q2
            have lmb : LtW w.heap.size wp := lmb
            go_wp2_with fail
            refine (HOP.out bd g 2 _ wp HP.out.d (HI.out.below HP.out.bel) HYD.out).mono ?_
            rintro r wo ⟨a2, A2, c2, rfl, hmo, hoo, hao, hbo⟩
            have ho := HP.out.opened HBL.out hmo hoo hao hbo
            have hws := rowBelow HP.out.ws hbo HP.out.ws.lt
            have k0 := hws.cell (i := 0) (by omega)
            have k1 := hws.cell (i := 1) (by omega)
            have k2 := hws.cell (i := 2) (by omega)
            have k3 := hws.cell (i := 3) (by omega)
            have fk0 := hws.frozen 0
            have fk1 := hws.frozen 1
            have fk2 := hws.frozen 2
            have fk3 := hws.frozen 3
            have lwb : LtW wb wo := hws.lt
            have HO := Lib.hid ho
            clear hmo hoo hao hbo ho hws HP q0 q1 q2 lmb
            go_wp2
            go_roundw
            case rel =>
              refine ⟨k + 1, by omega, by go_num, rfl, Lib.hid ?_⟩
              rw [HSUC.out, HE.out]
              exact ⟨_, _, _, _, _, ((HO.out.store1 1 (.int .i64 (0)) { y with d := { (y).d with left := -1 }, l := begin_ H (y).d.ws, todo := 0 } (wk7 rfl rfl rfl rfl rfl rfl rfl) rfl rfl rfl rfl).store1 2 (.bool false) { y with d := { (y).d with left := -1 }, l := begin_ H (y).d.ws, todo := 0, up := false } (wk7 rfl rfl rfl rfl rfl rfl rfl) rfl rfl rfl rfl).store1 3 (.bool false) { y with d := { (y).d with left := -1 }, l := begin_ H (y).d.ws, todo := 0, up := false, thr := false } (wk7 rfl rfl rfl rfl rfl rfl rfl) rfl rfl rfl rfl⟩
            case measure => simp [intOf]; omega
          · have HE : Hid (turnW W H bs t x = openW H x) := Lib.hid (by unfold turnW; rw [if_neg t1, if_pos t23, if_neg hb])
            have HYD : Hid (x.d.ws.length = 2) := Lib.hid hd2
            have k0 : (wr).cell? ⟨wb, 0, none⟩ = some (.pointer (some ⟨a, 0, none⟩)) := (hlw).ws.cell (i := 0) (by omega)
            have k1 : (wr).cell? ⟨wb, 1, none⟩ = some (.int .i64 ((x).todo)) := (hlw).ws.cell (i := 1) (by omega)
            have k2 : (wr).cell? ⟨wb, 2, none⟩ = some (.bool (x).up) := (hlw).ws.cell (i := 2) (by omega)
            have k3 : (wr).cell? ⟨wb, 3, none⟩ = some (.bool (x).thr) := (hlw).ws.cell (i := 3) (by omega)
            have k4 : (wr).cell? ⟨wb, 4, none⟩ = some (rv) := (hlw).ws.cell (i := 4) (by omega)
            have k5 : (wr).cell? ⟨wb, 5, none⟩ = some v := (hlw).ws.cell (i := 5) (by omega)
            have k6 : (wr).cell? ⟨wb, 6, none⟩ = some (.bool (x).bad) := (hlw).ws.cell (i := 6) (by omega)
            have fk0 := (hlw).ws.frozen 0
            have fk1 := (hlw).ws.frozen 1
            have fk2 := (hlw).ws.frozen 2
            have fk3 := (hlw).ws.frozen 3
            have fk4 := (hlw).ws.frozen 4
            have fk5 := (hlw).ws.frozen 5
            have fk6 := (hlw).ws.frozen 6
            have lwb : LtW wb wr := (hlw).ws.lt
            by_cases htd : x.todo = 3
            · have t3 : t = 3 := by
                rcases t23 with h | h
                · exact absurd ⟨htd, h⟩ hb
                · exact h
              subst t3
              rw [htd] at k1
              clear t1 t23 hb htd hd2 hwv hat hrl
              go_upto_region 18 with fail
              clear k0 k1 k2 k3 k4 k5 k6 fk0 fk1 fk2 fk3 fk4 fk5 fk6 lwb
              have HL2 := HL
              have c1 := HL2.out.d.cells.2.1
              have fc1 := HL2.out.d.row.frozen 1
              have lbd : LtW bd wr := HL2.out.d.row.lt
              go_upto_region 19 with fail
              have hp := HL2.out.power (-1) (by omega)
              have HP := Lib.hid hp
              have q0 := hp.ex.1.cell (i := 0) (by omega)
              have q1 := hp.ex.1.cell (i := 1) (by omega)
              have q2 := hp.ex.1.cell (i := 2) (by omega)
              have lmb := hp.ex.1.lt
              clear c1 fc1 lbd hp HL2
              generalize (wr).setCell ⟨bd, 1, none⟩ (.int .i64 (-1)) = wp at *
              have q0 : wp.cell? ⟨w.heap.size, 0, none⟩ = some (.int .i64 (W)) := q0
              have q1 : wp.cell? ⟨w.heap.size, 1, none⟩ = some (.int .i64 (H)) := q1
              have q2 : wp.cell? ⟨w.heap.size, 2, none⟩ = some (.slice A n c) := q2
              have lmb : LtW w.heap.size wp := lmb
              go_wp2_with fail
              refine (HOP.out bd g 2 _ wp HP.out.d (HI.out.below HP.out.bel) HYD.out).mono ?_
              rintro r wo ⟨a2, A2, c2, rfl, hmo, hoo, hao, hbo⟩
              have ho := HP.out.opened HBL.out hmo hoo hao hbo
              have hws := rowBelow HP.out.ws hbo HP.out.ws.lt
              have k0 := hws.cell (i := 0) (by omega)
              have k1 := hws.cell (i := 1) (by omega)
              have k2 := hws.cell (i := 2) (by omega)
              have k3 := hws.cell (i := 3) (by omega)
              have fk0 := hws.frozen 0
              have fk1 := hws.frozen 1
              have fk2 := hws.frozen 2
              have fk3 := hws.frozen 3
              have lwb : LtW wb wo := hws.lt
              have HO := Lib.hid ho
              clear hmo hoo hao hbo ho hws HP q0 q1 q2 lmb
              go_wp2
              go_roundw
              case rel =>
                refine ⟨k + 1, by omega, by go_num, rfl, Lib.hid ?_⟩
                rw [HSUC.out, HE.out]
                exact ⟨_, _, _, _, _, ((HO.out.store1 1 (.int .i64 (0)) { x with d := { (x).d with left := -1 }, l := begin_ H (x).d.ws, todo := 0 } (wk7 rfl rfl rfl rfl rfl rfl rfl) rfl rfl rfl rfl).store1 2 (.bool false) { x with d := { (x).d with left := -1 }, l := begin_ H (x).d.ws, todo := 0, up := false } (wk7 rfl rfl rfl rfl rfl rfl rfl) rfl rfl rfl rfl).store1 3 (.bool false) { x with d := { (x).d with left := -1 }, l := begin_ H (x).d.ws, todo := 0, up := false, thr := false } (wk7 rfl rfl rfl rfl rfl rfl rfl) rfl rfl rfl rfl⟩
              case measure => simp [intOf]; omega
            · have btd : (x.todo == 3) = false := by simpa using htd
              have HY : Hid (t = 2 ∨ t = 3) := Lib.hid t23
              clear t1 t23 hb htd hd2 hwv hat hrl
              rcases HY.out with rfl | rfl
              · go_upto_region 18 with fail
                clear k0 k1 k2 k3 k4 k5 k6 fk0 fk1 fk2 fk3 fk4 fk5 fk6 lwb
                have HL2 := HL
                have c1 := HL2.out.d.cells.2.1
                have fc1 := HL2.out.d.row.frozen 1
                have lbd : LtW bd wr := HL2.out.d.row.lt
                go_upto_region 19 with fail
                have hp := HL2.out.power (-1) (by omega)
                have HP := Lib.hid hp
                have q0 := hp.ex.1.cell (i := 0) (by omega)
                have q1 := hp.ex.1.cell (i := 1) (by omega)
                have q2 := hp.ex.1.cell (i := 2) (by omega)
                have lmb := hp.ex.1.lt
                clear c1 fc1 lbd hp HL2
                generalize (wr).setCell ⟨bd, 1, none⟩ (.int .i64 (-1)) = wp at *
                have q0 : wp.cell? ⟨w.heap.size, 0, none⟩ = some (.int .i64 (W)) := q0
                have q1 : wp.cell? ⟨w.heap.size, 1, none⟩ = some (.int .i64 (H)) := q1
                have q2 : wp.cell? ⟨w.heap.size, 2, none⟩ = some (.slice A n c) := q2
                have lmb : LtW w.heap.size wp := lmb
                go_wp2_with fail
                refine (HOP.out bd g 2 _ wp HP.out.d (HI.out.below HP.out.bel) HYD.out).mono ?_
                rintro r wo ⟨a2, A2, c2, rfl, hmo, hoo, hao, hbo⟩
                have ho := HP.out.opened HBL.out hmo hoo hao hbo
                have hws := rowBelow HP.out.ws hbo HP.out.ws.lt
                have k0 := hws.cell (i := 0) (by omega)
                have k1 := hws.cell (i := 1) (by omega)
                have k2 := hws.cell (i := 2) (by omega)
                have k3 := hws.cell (i := 3) (by omega)
                have fk0 := hws.frozen 0
                have fk1 := hws.frozen 1
                have fk2 := hws.frozen 2
                have fk3 := hws.frozen 3
                have lwb : LtW wb wo := hws.lt
                have HO := Lib.hid ho
                clear hmo hoo hao hbo ho hws HP q0 q1 q2 lmb
                go_wp2
                go_roundw
                case rel =>
                  refine ⟨k + 1, by omega, by go_num, rfl, Lib.hid ?_⟩
                  rw [HSUC.out, HE.out]
                  exact ⟨_, _, _, _, _, ((HO.out.store1 1 (.int .i64 (0)) { x with d := { (x).d with left := -1 }, l := begin_ H (x).d.ws, todo := 0 } (wk7 rfl rfl rfl rfl rfl rfl rfl) rfl rfl rfl rfl).store1 2 (.bool false) { x with d := { (x).d with left := -1 }, l := begin_ H (x).d.ws, todo := 0, up := false } (wk7 rfl rfl rfl rfl rfl rfl rfl) rfl rfl rfl rfl).store1 3 (.bool false) { x with d := { (x).d with left := -1 }, l := begin_ H (x).d.ws, todo := 0, up := false, thr := false } (wk7 rfl rfl rfl rfl rfl rfl rfl) rfl rfl rfl rfl⟩
                case measure => simp [intOf]; omega
              · go_upto_region 18 with fail
                clear k0 k1 k2 k3 k4 k5 k6 fk0 fk1 fk2 fk3 fk4 fk5 fk6 lwb
                have HL2 := HL
                have c1 := HL2.out.d.cells.2.1
                have fc1 := HL2.out.d.row.frozen 1
                have lbd : LtW bd wr := HL2.out.d.row.lt
                go_upto_region 19 with fail
                have hp := HL2.out.power (-1) (by omega)
                have HP := Lib.hid hp
                have q0 := hp.ex.1.cell (i := 0) (by omega)
                have q1 := hp.ex.1.cell (i := 1) (by omega)
                have q2 := hp.ex.1.cell (i := 2) (by omega)
                have lmb := hp.ex.1.lt
                clear c1 fc1 lbd hp HL2
                generalize (wr).setCell ⟨bd, 1, none⟩ (.int .i64 (-1)) = wp at *
                have q0 : wp.cell? ⟨w.heap.size, 0, none⟩ = some (.int .i64 (W)) := q0
                have q1 : wp.cell? ⟨w.heap.size, 1, none⟩ = some (.int .i64 (H)) := q1
                have q2 : wp.cell? ⟨w.heap.size, 2, none⟩ = some (.slice A n c) := q2
                have lmb : LtW w.heap.size wp := lmb
                go_wp2_with fail
                refine (HOP.out bd g 2 _ wp HP.out.d (HI.out.below HP.out.bel) HYD.out).mono ?_
                rintro r wo ⟨a2, A2, c2, rfl, hmo, hoo, hao, hbo⟩
                have ho := HP.out.opened HBL.out hmo hoo hao hbo
                have hws := rowBelow HP.out.ws hbo HP.out.ws.lt
                have k0 := hws.cell (i := 0) (by omega)
                have k1 := hws.cell (i := 1) (by omega)
                have k2 := hws.cell (i := 2) (by omega)
                have k3 := hws.cell (i := 3) (by omega)
                have fk0 := hws.frozen 0
                have fk1 := hws.frozen 1
                have fk2 := hws.frozen 2
                have fk3 := hws.frozen 3
                have lwb : LtW wb wo := hws.lt
                have HO := Lib.hid ho
                clear hmo hoo hao hbo ho hws HP q0 q1 q2 lmb
                go_wp2
                go_roundw
                case rel =>
                  refine ⟨k + 1, by omega, by go_num, rfl, Lib.hid ?_⟩
                  rw [HSUC.out, HE.out]
                  exact ⟨_, _, _, _, _, ((HO.out.store1 1 (.int .i64 (0)) { x with d := { (x).d with left := -1 }, l := begin_ H (x).d.ws, todo := 0 } (wk7 rfl rfl rfl rfl rfl rfl rfl) rfl rfl rfl rfl).store1 2 (.bool false) { x with d := { (x).d with left := -1 }, l := begin_ H (x).d.ws, todo := 0, up := false } (wk7 rfl rfl rfl rfl rfl rfl rfl) rfl rfl rfl rfl).store1 3 (.bool false) { x with d := { (x).d with left := -1 }, l := begin_ H (x).d.ws, todo := 0, up := false, thr := false } (wk7 rfl rfl rfl rfl rfl rfl rfl) rfl rfl rfl rfl⟩
                case measure => simp [intOf]; omega
        · have b2 : (t == 2) = false := by simp; omega
          have b3 : (t == 3) = false := by simp; omega
          clear hlw
          by_cases t4 : t = 4
          · have HE : Hid (turnW W H bs t x = tellW H 4 x) := Lib.hid (by unfold turnW; rw [if_neg t1, if_neg t23, if_pos t4])
            subst t4
            clear t1 t23
            go_wp2_with fail
            refine (tell_ok HL.out 4 (by omega) (by omega) hwv).mono ?_
            rintro r w9 ⟨rfl, h9⟩
            have H9 := Lib.hid h9
            clear h9 HL
            go_wp2
            go_roundw
            case rel => exact ⟨k + 1, by omega, by go_num, rfl, Lib.hid ⟨_, _, _, _, _, by rw [HSUC.out, HE.out]; exact H9.out⟩⟩
            case measure => simp [intOf]; omega
          · have b4 : (t == 4) = false := by simpa using t4
            by_cases t5 : t = 5
            · have HE : Hid (turnW W H bs t x = tellW H 7 x) := Lib.hid (by unfold turnW; rw [if_neg t1, if_neg t23, if_neg t4, if_pos t5])
              subst t5
              clear t1 t23 t4
              go_wp2_with fail
              refine (tell_ok HL.out 7 (by omega) (by omega) hwv).mono ?_
              rintro r w9 ⟨rfl, h9⟩
              have H9 := Lib.hid h9
              clear h9 HL
              go_wp2
              go_roundw
              case rel => exact ⟨k + 1, by omega, by go_num, rfl, Lib.hid ⟨_, _, _, _, _, by rw [HSUC.out, HE.out]; exact H9.out⟩⟩
              case measure => simp [intOf]; omega
            · have b5 : (t == 5) = false := by simpa using t5
              have HE : Hid (turnW W H bs t x = nextW W H bs x) := Lib.hid (by unfold turnW; rw [if_neg t1, if_neg t23, if_neg t4, if_neg t5])
              clear t1 t23 t4 t5
              go_wp2_with fail
              refine (next_ok HL.out HBL.out HNN.out hW hH hat HLT.out hwv (by omega) hd2 rfl).mono ?_
              rintro r w9 ⟨rfl, rv9, v9, h9⟩
              have H9 := Lib.hid h9
              clear h9 HL
              go_wp2
              go_roundw
              case rel => exact ⟨k + 1, by omega, by go_num, rfl, Lib.hid ⟨_, _, _, _, _, by rw [HSUC.out, HE.out]; exact H9.out⟩⟩
              case measure => simp [intOf]; omega
    · obtain rfl : k = tn := by omega
      have dk : decide ((k : Int) < (k : Int)) = false := by simp
      obtain ⟨a, A', c', rv, v, hlw⟩ := HX.out
      clear HX
      generalize liveW W H bs ts k = x at *
      obtain ⟨VA, VC, rfl⟩ := hlw.rows.form
      have HL := Lib.hid hlw
      have HST := Lib.hid (fun w' (hbw : Below wr.heap.size wr w') => state_ok a bd W H (.slice A' n c') x.l w' (HL.out.grow hbw).lm)
      have HWV := Lib.hid (fun w' (hbw : Below wr.heap.size wr w') => woven_ok a bd W H (.slice A' n c') x.l w' (HL.out.grow hbw).lm)
      have hro := hlw.ex.2.2
      have hwl := hlw.ws.lt
      have hol := hro.lt
      have hwo : wb ≠ ob := fun e => by
        have h9 := hlw.ws
        rw [e] at h9
        obtain ⟨c1, e1, _⟩ := h9
        exact absurd (ty_ne hro e1) (by decide)
      have k0 := hlw.ws.cell (i := 0) (by omega)
      have k5 := hlw.ws.cell (i := 5) (by omega)
      have k6 := hlw.ws.cell (i := 6) (by omega)
      have HRO := Lib.hid hro; have HRR := Lib.hid hlw.ex.2.1; have HB0 := Lib.hid hlw.bel
      have hrbo : rb ≠ ob ∨ True := .inr trivial
      have K0 : Hid (∀ w9 : World, (∀ j, j < wr.heap.size → j ≠ ob → w9.heap[j]? = wr.heap[j]?) → w9.cell? ⟨wb, 0, none⟩ = some (.pointer (some ⟨a, 0, none⟩)) ∧ w9.cell? ⟨wb, 5, none⟩ = some (.slice VA x.rows.length VC) ∧ w9.cell? ⟨wb, 6, none⟩ = some (.bool x.bad)) := Lib.hid fun w9 h9 =>
        ⟨(World.cell?_of_block (h9 wb hwl hwo)).trans k0, (World.cell?_of_block (h9 wb hwl hwo)).trans k5, (World.cell?_of_block (h9 wb hwl hwo)).trans k6⟩
      clear hlw hro k0 k5 k6 hwl hol hwo hrbo
      go_wp2_with fail
      have HSS : Hid (∀ w9 : World, Below wr.heap.size wr w9 → ∀ j, j < wr.heap.size → j ≠ ob → w9.heap[j]? = wr.heap[j]?) := Lib.hid fun w9 h9 j hj _ => h9.block j hj
      have hs0 := HSS.out wr.drew (Below.refl _ _).drew
      refine wp_region_HS (fun w9 : World => ∀ j, j < wr.heap.size → j ≠ ob → w9.heap[j]? = wr.heap[j]?) (by kernel_rfl) ?_
      (refine anyH_takeS (i := 0) rfl (by kernel_rfl) (fun _ _ _ _ h => h) hs0 (fun K hK => ?_); go_simp; first | refine hK _ ?_ | refine ⟨_, fun _ _ => rfl, hK _ ?_⟩; clear hK K)
      (refine anyH_takeS (i := 1) rfl (by kernel_rfl) (fun _ _ _ _ h => h) hs0 (fun K hK => ?_); simp only [Region.wanted, if_true]; refine ⟨(.slice VA x.rows.length VC), fun w9 h9 => ?_, ?_⟩)
      · clear hK
        obtain ⟨p0, p5, p6⟩ := K0.out w9 h9
        have l9 : LtW wb w9 := World.block_lt_of_cell? _ _ p0
        clear h9
        go_simp
      go_simp
      refine hK _ ?_
      clear hK K
      (refine anyH_takeS (i := 2) rfl (by kernel_rfl) (fun _ _ _ _ h => h) hs0 (fun K hK => ?_); go_simp; first | refine hK _ ?_ | refine ⟨_, fun _ _ => rfl, hK _ ?_⟩; clear hK K)
      (refine anyH_takeS (i := 3) rfl (by kernel_rfl) (fun _ _ _ _ h => h) hs0 (fun K hK => ?_); simp only [Region.wanted, if_true]; refine ⟨(.bool x.bad), fun w9 h9 => ?_, ?_⟩)
      · clear hK
        obtain ⟨p0, p5, p6⟩ := K0.out w9 h9
        have l9 : LtW wb w9 := World.block_lt_of_cell? _ _ p0
        clear h9
        go_simp
      go_simp
      refine hK _ ?_
      clear hK K
      (refine anyH_takeS (i := 4) rfl (by kernel_rfl) (fun _ _ _ _ h => h) hs0 (fun K hK => ?_); go_simp; first | refine hK _ ?_ | refine ⟨_, fun _ _ => rfl, hK _ ?_⟩; clear hK K)
      (refine anyH_takeS (i := 5) rfl (by kernel_rfl) (fun _ _ _ _ h => h) hs0 (fun K hK => ?_); simp only [Region.wanted, if_true]; refine ⟨(.pointer (some ⟨a, 0, none⟩)), fun w9 h9 => ?_, ?_⟩)
      · clear hK
        obtain ⟨p0, p5, p6⟩ := K0.out w9 h9
        have l9 : LtW wb w9 := World.block_lt_of_cell? _ _ p0
        clear h9
        go_simp
      go_simp
      refine hK _ ?_
      clear hK K
      (refine anyH_takeS (i := 7) rfl (by kernel_rfl) (fun _ _ _ _ h => h) hs0 (fun K hK => ?_); go_simp; first | refine hK _ ?_ | refine ⟨_, fun _ _ => rfl, hK _ ?_⟩; clear hK K)
      (refine anyH_takeS (i := 8) rfl (by kernel_rfl) (fun _ _ _ _ h => h) hs0 (fun K hK => ?_); simp only [Region.wanted, if_true]; refine ⟨(.pointer (some ⟨a, 0, none⟩)), fun w9 h9 => ?_, ?_⟩)
      · clear hK
        obtain ⟨p0, p5, p6⟩ := K0.out w9 h9
        have l9 : LtW wb w9 := World.block_lt_of_cell? _ _ p0
        clear h9
        go_simp
      go_simp
      refine hK _ ?_
      clear hK K
      (refine anyH_takeS (i := 10) rfl (by kernel_rfl) (fun _ _ _ _ h => h) hs0 (fun K hK => ?_); go_simp; first | refine hK _ ?_ | refine ⟨_, fun _ _ => rfl, hK _ ?_⟩; clear hK K)
      clear hs0
      refine anyH_one (i := 6) (by kernel_rfl) ?_
      refine wpOp_go (i := 6) rfl rfl (fun K hK => ?_)
      have HK := Lib.hid hK
      clear hK
      go_simp
      refine (HST.out _ (Below.refl _ _).drew).mono ?_
      rintro r w6 ⟨rfl, hb6⟩
      have HB6 : Hid (Below wr.heap.size wr w6) := Lib.hid (((Below.refl wr.heap.size wr).drew).trans hb6)
      clear hb6
      refine HK.out _ _ ⟨HSS.out w6 HB6.out, ?_⟩
      clear HK
      refine anyH_one (i := 9) (by kernel_rfl) ?_
      refine wpOp_go (i := 9) rfl rfl (fun K hK => ?_)
      have HK := Lib.hid hK
      clear hK
      go_simp
      refine (HWV.out _ HB6.out).mono ?_
      rintro r w9 ⟨rfl, hb9⟩
      have HB9 : Hid (Below wr.heap.size wr w9) := Lib.hid (HB6.out.trans (hb9.mono HB6.out.size))
      clear hb9
      refine HK.out _ _ ⟨HSS.out w9 HB9.out, ?_⟩
      clear HK HB6 HST HWV
      have hr9 := rowBelow HRO.out HB9.out HRO.out.lt
      have hq9 := rowBelow HRR.out HB9.out HRR.out.lt
      have o0 : w9.cell? ⟨ob, 0, none⟩ = some (.slice none 0 0) := hr9.cell (i := 0) (by omega)
      have o1 : w9.cell? ⟨ob, 1, none⟩ = some (.int .i64 (0)) := hr9.cell (i := 1) (by omega)
      have o2 : w9.cell? ⟨ob, 2, none⟩ = some (.int .i64 (0)) := hr9.cell (i := 2) (by omega)
      have o3 : w9.cell? ⟨ob, 3, none⟩ = some (.bool false) := hr9.cell (i := 3) (by omega)
      have f0 := hr9.frozen 0
      have f1 := hr9.frozen 1
      have f2 := hr9.frozen 2
      have f3 := hr9.frozen 3
      have lob : LtW ob w9 := hr9.lt
      have HR9 := Lib.hid hr9
      clear hr9
      have HSC : Hid (∀ w8 : World, (∀ j, j < wr.heap.size → j ≠ ob → w8.heap[j]? = wr.heap[j]?) → ∀ i u j, j < wr.heap.size → j ≠ ob → (w8.setCell ⟨ob, i, none⟩ u).heap[j]? = wr.heap[j]?) := Lib.hid fun w8 h8 i u j hj hjo => (Below.heap_setCell _ _ _ j (fun e => hjo (by rw [e]))).trans (h8 j hj hjo)
      have hs := HSS.out w9 HB9.out
      refine anyH_one (i := 11) (by kernel_rfl) ?_
      refine wpOp_go (i := 11) rfl rfl (fun K hK => ?_)
      go_simp
      have hs := HSC.out _ hs 0 (.slice VA x.rows.length VC)
      refine hK _ _ ⟨hs, ?_⟩
      clear hK K
      (refine anyH_takeS (i := 12) rfl (by kernel_rfl) (fun _ _ _ _ h => h) hs (fun K hK => ?_); go_simp; first | refine hK _ ?_ | refine ⟨_, fun _ _ => rfl, hK _ ?_⟩; clear hK K)
      refine anyH_one (i := 13) (by kernel_rfl) ?_
      refine wpOp_go (i := 13) rfl rfl (fun K hK => ?_)
      go_simp
      have hs := HSC.out _ hs 3 (.bool x.bad)
      refine hK _ _ ⟨hs, ?_⟩
      clear hK K
      (refine anyH_takeS (i := 14) rfl (by kernel_rfl) (fun _ _ _ _ h => h) hs (fun K hK => ?_); go_simp; first | refine hK _ ?_ | refine ⟨_, fun _ _ => rfl, hK _ ?_⟩; clear hK K)
      refine anyH_one (i := 15) (by kernel_rfl) ?_
      refine wpOp_go (i := 15) rfl rfl (fun K hK => ?_)
      go_simp
      have hs := HSC.out _ hs 1 (.int .i64 ((x.l.at_ : Nat)))
      refine hK _ _ ⟨hs, ?_⟩
      clear hK K
      (refine anyH_takeS (i := 16) rfl (by kernel_rfl) (fun _ _ _ _ h => h) hs (fun K hK => ?_); go_simp; first | refine hK _ ?_ | refine ⟨_, fun _ _ => rfl, hK _ ?_⟩; clear hK K)
      refine anyH_one (i := 17) (by kernel_rfl) ?_
      refine wpOp_go (i := 17) rfl rfl (fun K hK => ?_)
      go_simp
      have hs := HSC.out _ hs 2 (.int .i64 ((x.l.wv : Nat)))
      refine hK _ _ ⟨hs, ?_⟩
      clear hK K hs
      refine wpAnyH_done (by kernel_rfl) ?_ _
      obtain ⟨hk8, hr8⟩ := lived4 HR9.out 0 3 1 2 (.slice VA x.rows.length VC) (.bool x.bad) (.int .i64 ((x.l.at_ : Nat))) (.int .i64 ((x.l.wv : Nat)))
      have hq8 := hq9.of_block (other4 (w := w9) (j := rb) (k := ob) (by have := HRB.out; omega) 0 3 1 2 (.slice VA x.rows.length VC) (.bool x.bad) (.int .i64 ((x.l.at_ : Nat))) (.int .i64 ((x.l.wv : Nat))))
      have hb8 := below4 (HB0.out.trans (HB9.out.mono HB0.out.size)) (show w.heap.size ≤ ob by have := HRB.out; omega) 0 3 1 2 (.slice VA x.rows.length VC) (.bool x.bad) (.int .i64 ((x.l.at_ : Nat))) (.int .i64 ((x.l.wv : Nat)))
      have hrows8 := hk8.outR ((TyK.below (T := TL) HB9.out).outR HL.out.rows rfl rfl) rfl rfl
      clear o0 o1 o2 o3 f0 f1 f2 f3 lob hq9 HR9 HB9 HB0 HRO HRR K0 HSS HSC hk8 HL
      generalize (((w9.setCell ⟨ob, 0, none⟩ (.slice VA x.rows.length VC)).setCell ⟨ob, 3, none⟩ (.bool x.bad)).setCell ⟨ob, 1, none⟩ (.int .i64 ((x.l.at_ : Nat)))).setCell ⟨ob, 2, none⟩ (.int .i64 ((x.l.wv : Nat))) = w8 at *
      have o0 : w8.cell? ⟨ob, 0, none⟩ = some (.slice VA x.rows.length VC) := hr8.cell (i := 0) (by omega)
      have o1 : w8.cell? ⟨ob, 1, none⟩ = some (.int .i64 ((x.l.at_ : Nat))) := hr8.cell (i := 1) (by omega)
      have o2 : w8.cell? ⟨ob, 2, none⟩ = some (.int .i64 ((x.l.wv : Nat))) := hr8.cell (i := 2) (by omega)
      have o3 : w8.cell? ⟨ob, 3, none⟩ = some (.bool x.bad) := hr8.cell (i := 3) (by omega)
      have lob : LtW ob w8 := hr8.lt
      have r0 : w8.cell? ⟨rb, 0, none⟩ = some (.slice none 0 0) := hq8.cell (i := 0) (by omega)
      have r1 : w8.cell? ⟨rb, 1, none⟩ = some (.int .i64 (0)) := hq8.cell (i := 1) (by omega)
      have r2 : w8.cell? ⟨rb, 2, none⟩ = some (.int .i64 (0)) := hq8.cell (i := 2) (by omega)
      have r3 : w8.cell? ⟨rb, 3, none⟩ = some (.bool false) := hq8.cell (i := 3) (by omega)
      have f0 := hq8.frozen 0
      have f1 := hq8.frozen 1
      have f2 := hq8.frozen 2
      have f3 := hq8.frozen 3
      have lrb : LtW rb w8 := hq8.lt
      have HQ8 := Lib.hid hq8; have HB8 := Lib.hid hb8; have HR8 := Lib.hid hrows8
      clear hr8 hq8 hb8 hrows8
      go_wp2
      refine bodyPost_ret (v := .agg #[.slice VA x.rows.length VC, .int .i64 ((x.l.at_ : Nat)), .int .i64 ((x.l.wv : Nat)), .bool x.bad]) (by simp [results, Try.results10, go_sem, r0, r1, r2, r3]) rfl ⟨_, rfl, ?_, ?_⟩
      · exact (lived4 HQ8.out 0 1 2 3 (.slice VA x.rows.length VC) (.int .i64 ((x.l.at_ : Nat))) (.int .i64 ((x.l.wv : Nat))) (.bool x.bad)).1.outR HR8.out rfl rfl
      · exact below4 HB8.out (by have := HRB.out; omega) _ _ _ _ _ _ _ _
end Go.Proofs.Ytefmlepogpjhmaa
