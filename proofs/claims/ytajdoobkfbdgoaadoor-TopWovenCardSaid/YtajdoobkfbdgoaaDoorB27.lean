/- Lemmas on which the law of this seat rests; each states its own conditions. -/
import Derived.Test.YtajdoobkfbdgoaaDoorB20
import Derived.Test.YtajdoobkfbdgoaaDoorB26
import Derived.Test.YtajdoobkfbdgoaaDoorB23
set_option linter.unusedVariables false
set_option linter.unusedSimpArgs false
namespace Go.Proofs.YtajdoobkfbdgoaaDoor
section
open Go.RowKit
open Cl Lo
open By (readS RowsOk rowsF rowF hasAt hdR rowL)
theorem rowsF_bad {B : List Nat} (hB : ∀ x ∈ B, x < 256) : ∀ (f i : Nat) (rows : List (List Nat)) (e p : Nat), rowsF B f i rows = .bad e p → i ≤ B.length → B.length + 1 < f + i → e ≠ 0
 | 0, i, rows, e, p, h, h1, h2 => by omega
 | f + 1, i, rows, e, p, h, h1, h2 => by
  unfold rowsF at h
  split at h
  ·cases hr : rowF B (B.length + 1) i [] with
   | bad q =>
    rw [hr] at h
    simp only at h
    injection h with h3 _
    omega
   | ok row q =>
    rw [hr] at h
    simp only at h
    split at h
    ·injection h with h3 _; omega
    ·split at h
     ·injection h with h3 _; omega
     ·obtain ⟨t, _, _, _, h5, h6⟩ := By.rowF_ok hB _ _ _ _ _ hr (by simp)
      have h7 := By.hasAt_bd h5 (by simp)
      rw [List.length_append, List.length_singleton] at h7
      exact rowsF_bad hB f q _ e p h (by omega) (by omega)
  ·cases h
theorem lfHm40 {P : Prop} (h : P := by
 have h7 := By.hasAt_bd h6 (by decide)
 injection h with _ h
 split at h
 ·rename_i h8
  have h9 := By.hasAt_bd h8 (by simp)
  simp at h9
  exact rowsF_bad hB _ _ _ _ _ h (by omega) (by omega)
 ·injection h with h _; omega) : P := h
theorem readS_bad {B : List Nat} (hB : ∀ x ∈ B, x < 256) {G e p : Nat} (h : readS B = (G, .bad e p)) : e ≠ 0 := by
 unfold readS at h
 split at h
 ·injection h with _ h; injection h with h _; omega
 ·split at h
  ·rename_i h6
   exact lfHm40
  ·split at h
   ·rename_i h6
    exact lfHm40
   ·injection h with _ h; injection h with h _; omega
structure Hi (B : Nat) (w w' : World) : Prop where
 size : w.heap.size ≤ w'.heap.size
 blk : ∀ k, B ≤ k → k < w.heap.size → w'.heap[k]? = w.heap[k]?
theorem Hi.refl (B : Nat) (w : World) : Hi B w w := ⟨Nat.le_refl _, fun _ _ _ => rfl⟩
theorem Hi.set {B : Nat} {w w' : World} (h : Hi B w w') {ob : Nat} (hob : ob < B) (i : Nat) (v : Value) : Hi B w (w'.setCell ⟨ob, i, none⟩ v) :=
 ⟨by rw [World.size_setCell]; exact h.size, fun k h1 h2 => (Below.heap_setCell _ _ _ k (fun e => by have e2 : k = ob := e; omega)).trans (h.blk k h1 h2)⟩
theorem LV.hi {B : Nat} {w w' : World} {A : Option Addr} {n : Nat} {L : List Int} (h : LV B w A n L) (hh : Hi B w w') : IsInts w' A n L := by
 refine ⟨h.ints.1, fun hn => ?_⟩
 obtain ⟨b, o, h1, h2, h3⟩ := h.ints.2 hn
 have h4 := h.off b o h1
 exact ⟨b, o, h1, Nat.lt_of_lt_of_le h2 hh.size, fun j hj => (World.cell?_of_block (hh.blk b h4 h2)).trans (h3 j hj)⟩
theorem OV.hi {B : Nat} {w w' : World} {A : Option Addr} {n c : Nat} {L : List Bool} (h : OV B w A n c L) (hh : Hi B w w') : OkT w' A n c L := by
 refine ⟨⟨h.okt.bits.1, fun hn => ?_⟩, h.okt.cap, h.okt.lim⟩
 obtain ⟨b, o, h1, h2, h3⟩ := h.okt.bits.2 hn
 have h4 := h.off b o h1
 exact ⟨b, o, h1, Nat.lt_of_lt_of_le h2 hh.size, fun j hj => (World.cell?_of_block (hh.blk b h4 h2)).trans (h3 j hj)⟩
def mZ : Nat → Value := mF (.string ⟨#[]⟩) (.int .i64 (0)) (.slice none 0 0) (.int .i64 (0)) (.int .i64 (0)) (.slice none 0 0) (.slice none 0 0) (.bool false) (.slice none 0 0) (.int .i64 (0)) (.int .i64 (0)) (.string ⟨#[]⟩)
def fZ : Nat → Value := fun i => if i = 0 then .int .i64 0 else .int .i64 0
def chM (G W H : Int) (v : Value) : Nat → Value := fun i => if i = 0 then .int .i64 G else if i = 1 then .int .i64 W else if i = 2 then .int .i64 H else v
theorem mZ_alloc (w : World) : (w.alloc (.cells #[.string ⟨#[]⟩, .int .i64 0, .slice none 0 0, .int .i64 0, .int .i64 0, .slice none 0 0, .slice none 0 0, .bool false, .slice none 0 0, .int .i64 0, .int .i64 0, .string ⟨#[]⟩] 37)).rowIs w.heap.size 37 12 mZ := by
 refine World.rowIs_alloc w #[.string ⟨#[]⟩, .int .i64 0, .slice none 0 0, .int .i64 0, .int .i64 0, .slice none 0 0, .slice none 0 0, .bool false, .slice none 0 0, .int .i64 0, .int .i64 0, .string ⟨#[]⟩] 37 mZ ?_
 intro j hj
 have hj' : j < 12 := hj
 have h12 : j = 0 ∨ j = 1 ∨ j = 2 ∨ j = 3 ∨ j = 4 ∨ j = 5 ∨ j = 6 ∨ j = 7 ∨ j = 8 ∨ j = 9 ∨ j = 10 ∨ j = 11 := by omega
 rcases h12 with rfl | rfl | rfl | rfl | rfl | rfl | rfl | rfl | rfl | rfl | rfl | rfl <;> rfl
theorem fZ_alloc (w : World) : (w.alloc (.cells #[.int .i64 0, .int .i64 0] 28)).rowIs w.heap.size 28 2 fZ := by
 refine World.rowIs_alloc w #[.int .i64 0, .int .i64 0] 28 fZ ?_
 intro j hj
 have hj' : j < 2 := hj
 have h2 : j = 0 ∨ j = 1 := by omega
 rcases h2 with rfl | rfl <;> rfl
theorem chM_alloc (w : World) (G W H : Int) (a : Option Addr) (n c : Nat) : (w.alloc (.cells #[.int .i64 G, .int .i64 W, .int .i64 H, .slice a n c] 25)).rowIs w.heap.size 25 4 (chM G W H (.slice a n c)) := by
 refine World.rowIs_alloc w #[.int .i64 G, .int .i64 W, .int .i64 H, .slice a n c] 25 (chM G W H (.slice a n c)) ?_
 intro j hj
 have hj' : j < 4 := hj
 have h4 : j = 0 ∨ j = 1 ∨ j = 2 ∨ j = 3 := by omega
 rcases h4 with rfl | rfl | rfl | rfl <;> rfl
structure HMk (ob rb fb cb : Nat) (f : Nat → Value) (G W H : Int) (a : Option Addr) (n c : Nat) (cs : List Int) (w0 w : World) : Prop where
 row : w.rowIs ob 37 12 f
 res : w.rowIs rb 37 12 mZ
 flt : w.rowIs fb 28 2 fZ
 cht : w.rowIs cb 25 4 (chM G W H (.slice a n c))
 ints : IsInts w a n cs
 n1 : rb ≠ ob
 n2 : fb ≠ ob
 n3 : cb ≠ ob
 off : ∀ b o, a = some ⟨b, o, none⟩ → b ≠ ob
 bel : Below w0.heap.size w0 w
 le : w0.heap.size ≤ ob
section
variable {ob rb fb cb : Nat} {f : Nat → Value} {G W H : Int} {a : Option Addr} {n c : Nat} {cs : List Int} {w0 w w' : World}
theorem HMk.call (h : HMk ob rb fb cb f G W H a n c cs w0 w) (hb : Below w.heap.size w w') : HMk ob rb fb cb f G W H a n c cs w0 w' :=
 ⟨rowBelow h.row hb h.row.lt, rowBelow h.res hb h.res.lt, rowBelow h.flt hb h.flt.lt, rowBelow h.cht hb h.cht.lt, h.ints.below hb, h.n1, h.n2, h.n3, h.off, h.bel.trans (hb.mono h.bel.size), h.le⟩
theorem HMk.set (h : HMk ob rb fb cb f G W H a n c cs w0 w) (i : Nat) (v : Value) : HMk ob rb fb cb (fun j => if j = i then v else f j) G W H a n c cs w0 (w.setCell ⟨ob, i, none⟩ v) :=
 ⟨h.row.set i v, h.res.of_block (Below.heap_setCell _ _ _ rb (fun e => h.n1 e)), h.flt.of_block (Below.heap_setCell _ _ _ fb (fun e => h.n2 e)), h.cht.of_block (Below.heap_setCell _ _ _ cb (fun e => h.n3 e)),
  h.ints.setOther (p := ⟨ob, i, none⟩) (fun b o e => h.off b o e) v, h.n1, h.n2, h.n3, h.off, h.bel.setCell h.le _, h.le⟩
theorem HMk.congr (h : HMk ob rb fb cb f G W H a n c cs w0 w) {f' : Nat → Value} (hf : ∀ j, j < 12 → f j = f' j) : HMk ob rb fb cb f' G W H a n c cs w0 w :=
 ⟨h.row.congr hf, h.res, h.flt, h.cht, h.ints, h.n1, h.n2, h.n3, h.off, h.bel, h.le⟩
end
def MkU (k : ByteArray) (p : Int) (n1 n2 n5 n6 : Nat) (X Y : Int) (l1 l2 : List Int) (l5 : List Bool) (l6 : List Int) (hg : Bool) (dn al : Int) (cd : ByteArray) (fe fp : Int) (w : World) (r : Ending) (w' : World) : Prop :=
 ∃ A1 c1 A2 c2 A5 c5 A6 c6, r = .returned (.tuple #[.agg #[.string k, .int .i64 (p), .slice A1 n1 c1, .int .i64 (X), .int .i64 (Y), .slice A5 n5 c5, .slice A2 n2 c2, .bool hg, .slice A6 n6 c6, .int .i64 (dn), .int .i64 (al), .string cd], .agg #[.int .i64 (fe), .int .i64 (fp)]]) ∧
  IsInts w' A1 n1 l1 ∧ IsInts w' A2 n2 l2 ∧ OkT w' A5 n5 c5 l5 ∧ IsInts w' A6 n6 l6 ∧ Below w.heap.size w w'
theorem MkU.bad {fe fp : Int} {w w' : World} {r : Ending} (h : r = .returned (.tuple #[.agg #[.string ⟨#[]⟩, .int .i64 0, .slice none 0 0, .int .i64 0, .int .i64 0, .slice none 0 0, .slice none 0 0, .bool false, .slice none 0 0, .int .i64 0, .int .i64 0, .string ⟨#[]⟩], .agg #[.int .i64 (fe), .int .i64 (fp)]])) (hb : Below w.heap.size w w') : MkU ⟨#[]⟩ 0 0 0 0 0 0 0 [] [] [] [] false 0 0 ⟨#[]⟩ fe fp w r w' :=
 ⟨none, 0, none, 0, none, 0, none, 0, h, ⟨rfl, fun h => absurd h (by omega)⟩, ⟨rfl, fun h => absurd h (by omega)⟩, ⟨⟨rfl, fun h => absurd h (by omega)⟩, by omega, by omega⟩, ⟨rfl, fun h => absurd h (by omega)⟩, hb⟩
end
section
open Go.RowKit
open Cl Lo
open By (readS)
set_option maxRecDepth 100000 in
set_option maxHeartbeats 8000000 in
theorem hMake_rbad (s : ByteArray) (G e p : Nat) (w : World) (hT : Tabs w) (hs : s.size ≤ 9223372036854775807) (hr : readS (By.bytesOf s) = (G, .bad e p)) :
  Calls Tryd.prog 7 #[.string s] w (MkU ⟨#[]⟩ 0 0 0 0 0 0 0 [] [] [] [] false 0 0 ⟨#[]⟩ e p w) := by
 have he := readS_bad (By.bytesOf_lt s) hr
 have hb : ((e : Int) != 0) = true := by simp; omega
 have HR := Lib.hid (fun w h => chRead_any s w hs h)
 rw [hr] at HR
 have HT := Lib.hid hT
 unfold RdPost at HR
 simp only at HR
 clear hT hs hr he
 go_enter Tryd.func7, Tryd.ntmps7
 (go_wp2_with fail; refine (HR.out _ (HT.out.below blw)).mono ?_; rintro r w1 ⟨rfl, hb⟩; obtain ⟨E, d, rfl⟩ := bExt hb; clear hb)
 go_wp2_with fail
 go_region
 all_goals
  go_wp2
  refine bodyPost_ret (v := .tuple #[.agg #[.string ⟨#[]⟩, .int .i64 0, .slice none 0 0, .int .i64 0, .int .i64 0, .slice none 0 0, .slice none 0 0, .bool false, .slice none 0 0, .int .i64 0, .int .i64 0, .string ⟨#[]⟩], .agg #[.int .i64 e, .int .i64 p]]) (by simp [results, Tryd.results7, go_sem]) rfl (MkU.bad rfl blw)
end
section
open Go.RowKit
open Cl Lo
open By (readS)
set_option maxRecDepth 100000 in
set_option maxHeartbeats 8000000 in
theorem hMake_ok (s : ByteArray) (G : Nat) (rows : List (List Nat)) (w : World) (hT : Tabs w) (hs : s.size ≤ 9223372036854775807) (hr : readS (By.bytesOf s) = (G, .ok rows)) (Wd Hh n N : Nat) (cs : List Int) (hWd : (rows.headD []).length = Wd) (hHh : rows.length = Hh) (hn : rows.reverse.flatten.length = n) (hcs : natI rows.reverse.flatten = cs) (hm : Z.torN Wd Hh = N) (h24 : N ≤ 24)
  (k : Int) (kn : ByteArray) (dl : Nat) (l1 l2 l6 : List Int) (l5 : List Bool) (e q n6 : Nat) (dn al : Int) (cd : ByteArray)
  (HK : Hid (∀ a c w, IsInts w a n cs → Calls Tryd.prog 19 #[.agg #[.int .i64 (G), .int .i64 (Wd), .int .i64 (Hh), .slice a n c]] w fun r w' => r = .returned (.tuple #[.int .i64 (k), .int .i64 (0)]) ∧ Below w.heap.size w w'))
  (HN : Hid (∀ w, Calls Tryd.prog 20 #[.int .i64 (k)] w fun r w' => r = .returned (.tuple #[.string kn, .int .i64 (0)]) ∧ Below w.heap.size w w'))
  (hdl : (firstsP G N (Z.movesL Wd Hh cs G N) (N * N)).length = dl)
  (h1 : (ends Wd Hh (rsB cs)).length = e) (h2 : (picks Wd Hh (rsB cs)).length = q) (h3 : natI (thL Wd Hh (rsB cs)) = l1) (h4 : natI (trL Wd Hh (rsB cs)) = l2) (h5 : tieL Wd Hh (rsB cs) = l5) (h6 : natI (lift (Wd+Hh) (abM Wd Hh (rsB cs))) = l6) (h6n : (lift (Wd+Hh) (abM Wd Hh (rsB cs))).length = n6)
  (h7 : longV true Hh Wd (turnL Wd Hh (rsB cs)) = dn) (h8 : longV false Wd Hh (rsB cs) = al) (h9 : strOf (deckL Wd Hh (rsB cs)) = cd) :
  Calls Tryd.prog 7 #[.string s] w (MkU kn dl Wd Hh (e * q) n6 e q l1 l2 l5 l6 (((n6 : Nat) : Int) == 0) dn al cd 0 0 w) := by
 have hC := read_okH (By.bytesOf_lt s) hr
 have HR := Lib.hid (fun w h => chRead_any s w hs h)
 rw [hr] at HR
 have HT := Lib.hid hT
 unfold RdPost at HR
 simp only at HR
 rw [hWd, hHh, hn, hcs] at HR hC
 have hW1 := hC.w1; have hW2 := hC.w2; have hH1 := hC.h1; have hH2 := hC.h2
 have hnn := hC.hn
 have hn4 := hC.n4
 have hn0 : 0 < n := by rw [hnn]; exact Nat.mul_pos hW1 hH1
 have h0 := hC.tpos
 rw [hm] at h0
 have hmf := moves_facts (cs := cs) hC hm h24 h0
 have HD := Lib.hid (fun a c w hI => Domain_ok G Wd Hh n N a c cs w hI hC hm h24 h0 hmf.2.2.2)
 unfold PtPost at HD
 have hlr : (rsB cs).length = n := by unfold rsB; rw [List.length_map, ← hcs, ← hn]; unfold natI; rw [List.length_map]
 have HRA := Lib.hid (fun a c w (hI : IsInts w a n cs) => raised_ok G Wd Hh a n c cs w hI hn4 (fun j hj => by
  have hjl : j < cs.length := by rw [hI.1]; exact hj
  rw [List.getD_eq_getElem?_getD, List.getElem?_eq_getElem hjl]
  exact (hC.cr _ (List.getElem_mem hjl)).1))
 unfold RsPost at HRA
 rw [hlr] at HRA
 clear hlr
 have HWV := Lib.hid (fun a c ob k p w hT hR hoff => weave_ok Wd Hh n a c (rsB cs) ob k p w hT hW2 hH2 hW1 hH1 hnn hR hoff)
 unfold WvPost at HWV
 rw [hdl] at HD
 rw [h1, h2, h3, h4, h5, h6, h7, h8, h9, h6n] at HWV
 generalize rsB cs = bs at *
 clear hT hs hr hC hm hmf hdl h1 h2 h3 h4 h5 h6 h6n h7 h8 h9 hnn hWd hHh hn hcs
 go_enter Tryd.func7, Tryd.ntmps7
 go_wp2_with fail
 refine (HR.out _ (HT.out.below blw)).mono ?_
 rintro r w1 ⟨⟨A, C, rfl, hI⟩, hb⟩
 have hlen := hI.1
 have HB1 : Hid (Below w.heap.size w w1) := Lib.hid (Below.trans blw (hb.mono bnd))
 have res : w1.rowIs w.heap.size 37 12 mZ := rowBelow (rowBelow (mZ_alloc w) ((Below.refl _ _).alloc (Nat.le_refl _) _) (by simp)) hb (by simp; omega)
 have flt : w1.rowIs (w.heap.size + 1) 28 2 fZ := by
  have := fZ_alloc (w.alloc (.cells #[.string ⟨#[]⟩, .int .i64 0, .slice none 0 0, .int .i64 0, .int .i64 0, .slice none 0 0, .slice none 0 0, .bool false, .slice none 0 0, .int .i64 0, .int .i64 0, .string ⟨#[]⟩] 37))
  rw [World.size_alloc] at this
  exact rowBelow this hb (by simp)
 have hsz := hb.size
 simp only [World.size_alloc] at hsz
 have HI1 := Lib.hid hI
 have RES := Lib.hid res
 have FLT := Lib.hid flt
 clear hI hb res flt HT HR
 obtain ⟨rb, hrb⟩ : ∃ rb, rb = w.heap.size := ⟨_, rfl⟩
 obtain ⟨fb, hfb⟩ : ∃ fb, fb = w.heap.size + 1 := ⟨_, rfl⟩
 rw [← hrb] at RES FLT hfb ⊢
 rw [← hfb] at FLT ⊢
 have HRB := Lib.hid hrb
 have HFB := Lib.hid hfb
 clear hrb hfb
 go_wp2_with fail
 refine (HK.out _ _ _ (HI1.out.below blw)).mono ?_
 rintro r w2 ⟨rfl, hb⟩
 have hb2 : Below w1.heap.size w1 w2 := Below.trans ((Below.alloc (Below.alloc (Below.refl _ _) (Nat.le_refl _) _) (by simp) _)) (hb.mono (by simp; omega))
 have cht : w2.rowIs w1.heap.size 25 4 (chM G Wd Hh (.slice A n C)) := rowBelow (rowBelow (chM_alloc w1 G Wd Hh A n C) ((Below.refl _ _).alloc (Nat.le_refl _) _) (by simp)) hb (by simp; omega)
 have CHT := Lib.hid cht
 have HB2 := Lib.hid hb2
 have hsz2 := hb.size
 simp only [World.size_alloc] at hsz2
 clear hb cht hb2
 obtain ⟨cb, hcb⟩ : ∃ cb, cb = w1.heap.size := ⟨_, rfl⟩
 rw [← hcb] at CHT ⊢
 have HCB := Lib.hid hcb
 clear hcb
 go_wp2_with fail
 refine (HN.out _).mono ?_
 rintro r w3 ⟨rfl, hb⟩
 have HX : Hid (HMk w2.heap.size rb fb cb mZ G Wd Hh A n C cs w w3) := Lib.hid (by
  have a2 : Below w2.heap.size w2 (w2.alloc (.cells #[.string ⟨#[]⟩, .int .i64 0, .slice none 0 0, .int .i64 0, .int .i64 0, .slice none 0 0, .slice none 0 0, .bool false, .slice none 0 0, .int .i64 0, .int .i64 0, .string ⟨#[]⟩] 37)) := (Below.refl _ _).alloc (Nat.le_refl _) _
  have b2 := HB2.out
  have z := HB2.out.size
  have hrb := HRB.out; have hfb := HFB.out; have hcb := HCB.out
  have l1 := RES.out.lt
  have l2 := FLT.out.lt
  have l3 := CHT.out.lt
  have hbb : Below w2.heap.size w2 w3 := a2.trans (hb.mono (by simp))
  refine ⟨rowBelow (mZ_alloc w2) hb (by simp), rowBelow (rowBelow RES.out b2 l1) hbb (by omega), rowBelow (rowBelow FLT.out b2 l2) hbb (by omega), rowBelow CHT.out hbb l3, (HI1.out.below b2).below hbb, by omega, by omega, by omega, fun b o eb => ?_, ?_, ?_⟩
  ·obtain ⟨b', o', e1, e2, _⟩ := HI1.out.2 hn0
   rw [e1] at eb
   injection eb with eb
   injection eb with eb
   omega
  ·exact (HB1.out.trans (b2.mono HB1.out.size)).trans (hbb.mono (Nat.le_trans HB1.out.size z))
  ·have := HB1.out.size; omega)
 obtain ⟨ob, hob⟩ : ∃ ob, ob = w2.heap.size := ⟨_, rfl⟩
 rw [← hob] at HX ⊢
 have hrbo : rb < ob := by have := RES.out.lt; have := HB2.out.size; omega
 have hfbo : fb < ob := by have := FLT.out.lt; have := HB2.out.size; omega
 have hrf : rb ≠ fb := by have := HFB.out; omega
 have HWB : Hid (w.heap.size ≤ rb ∧ w.heap.size ≤ fb) := Lib.hid (by have := HRB.out; have := HFB.out; omega)
 clear hb HB2 HB1 HI1 RES FLT CHT hsz hsz2 HK HN hob HCB HRB HFB
 have t0 : w3.cell? ⟨cb, 0, none⟩ = some (.int .i64 (G)) := HX.out.cht.cell (i := 0) (by omega)
 have t1 : w3.cell? ⟨cb, 1, none⟩ = some (.int .i64 (Wd)) := HX.out.cht.cell (i := 1) (by omega)
 have t2 : w3.cell? ⟨cb, 2, none⟩ = some (.int .i64 (Hh)) := HX.out.cht.cell (i := 2) (by omega)
 have t3 : w3.cell? ⟨cb, 3, none⟩ = some (.slice A n C) := HX.out.cht.cell (i := 3) (by omega)
 have lt : LtW cb w3 := HX.out.cht.lt
 have lo : LtW ob w3 := HX.out.row.lt
 have o0 : w3.cell? ⟨ob, 0, none⟩ = some (.string ⟨#[]⟩) := HX.out.row.cell (i := 0) (by omega)
 have g0 := HX.out.row.frozen 0
 have ne1 : ¬ (ob = cb) := fun e => HX.out.n3 e.symm
 have ne2 : ¬ (cb = ob) := HX.out.n3
 go_wp2_with fail
 have HX2 := Lib.hid (HX.out.set 0 (.string kn))
 refine (HD.out _ _ _ HX2.out.ints).mono ?_
 rintro r w4 ⟨⟨A4, C4, rfl, _⟩, hb⟩
 have HX3 := Lib.hid (HX2.out.call hb)
 clear t0 t1 t2 t3 lt lo o0 g0 HX HX2 hb HD
 have HX := HX3
 clear HX3
 have t0 : w4.cell? ⟨cb, 0, none⟩ = some (.int .i64 (G)) := HX.out.cht.cell (i := 0) (by omega)
 have t1 : w4.cell? ⟨cb, 1, none⟩ = some (.int .i64 (Wd)) := HX.out.cht.cell (i := 1) (by omega)
 have t2 : w4.cell? ⟨cb, 2, none⟩ = some (.int .i64 (Hh)) := HX.out.cht.cell (i := 2) (by omega)
 have t3 : w4.cell? ⟨cb, 3, none⟩ = some (.slice A n C) := HX.out.cht.cell (i := 3) (by omega)
 have lt : LtW cb w4 := HX.out.cht.lt
 have lo : LtW ob w4 := HX.out.row.lt
 have o1 : w4.cell? ⟨ob, 1, none⟩ = some (.int .i64 (0)) := HX.out.row.cell (i := 1) (by omega)
 have g1 := HX.out.row.frozen 1
 go_wp2_with fail
 have HX2 := Lib.hid (HX.out.set 1 (.int .i64 (dl)))
 refine (HRA.out _ _ _ HX2.out.ints).mono ?_
 rintro r w5 ⟨A5, C5, rfl, hT5, hb, hf5⟩
 have HX3 := Lib.hid ((HX2.out.call hb).congr (f' := mF (.string kn) (.int .i64 (dl)) (.slice none 0 0) (.int .i64 (0)) (.int .i64 (0)) (.slice none 0 0) (.slice none 0 0) (.bool false) (.slice none 0 0) (.int .i64 (0)) (.int .i64 (0)) (.string ⟨#[]⟩)) (fun j hj => by
 have h12 : j = 0 ∨ j = 1 ∨ j = 2 ∨ j = 3 ∨ j = 4 ∨ j = 5 ∨ j = 6 ∨ j = 7 ∨ j = 8 ∨ j = 9 ∨ j = 10 ∨ j = 11 := by omega
 rcases h12 with rfl | rfl | rfl | rfl | rfl | rfl | rfl | rfl | rfl | rfl | rfl | rfl <;> rfl))
 have hlt5 := HX2.out.row.lt
 have hoff : ∀ b o, A5 = some ⟨b, o, none⟩ → b ≠ ob := fun b o eb => by have := hf5 b o eb; omega
 have HT5 := Lib.hid hT5
 have HOF := Lib.hid hoff
 clear t0 t1 t2 t3 lt lo o1 g1 HX HX2 hb hT5 hf5 hoff hlt5 HRA
 have HX := HX3
 clear HX3
 go_wp2_with fail
 refine (HWV.out A5 C5 ob _ _ w5 HT5.out HX.out.row HOF.out).mono ?_
 rintro r w6 ⟨rfl, A1, c1, A2, c2, A6, c6, A7, c7, hrow, V1, V2, V5, V6, hx⟩
 have hlo := HX.out.row.lt
 have res := hx.rowIs HX.out.res (by omega) (by omega)
 have flt := hx.rowIs HX.out.flt (by omega) (by omega)
 have hbw : Below w.heap.size w w6 := HX.out.bel.trans (hx.below rfl HX.out.le hlo)
 have HBW6 := Lib.hid hbw
 have V1 := Lib.hid V1; have V2 := Lib.hid V2; have V5 := Lib.hid V5; have V6 := Lib.hid V6
 have HRB5 : Hid (rb < w5.heap.size ∧ fb < w5.heap.size) := Lib.hid (by omega)
 have m0 : w6.cell? ⟨ob, 0, none⟩ = some (Value.string kn) := hrow.cell (i := 0) (by omega)
 have m1 : w6.cell? ⟨ob, 1, none⟩ = some (Value.int .i64 (dl : Int)) := hrow.cell (i := 1) (by omega)
 have m2 : w6.cell? ⟨ob, 2, none⟩ = some (.slice A1 Wd c1) := hrow.cell (i := 2) (by omega)
 have m3 : w6.cell? ⟨ob, 3, none⟩ = some (Value.int .i64 (e : Int)) := hrow.cell (i := 3) (by omega)
 have m4 : w6.cell? ⟨ob, 4, none⟩ = some (Value.int .i64 (q : Int)) := hrow.cell (i := 4) (by omega)
 have m5 : w6.cell? ⟨ob, 5, none⟩ = some (.slice A6 (e * q) c6) := hrow.cell (i := 5) (by omega)
 have m6 : w6.cell? ⟨ob, 6, none⟩ = some (.slice A2 Hh c2) := hrow.cell (i := 6) (by omega)
 have m7 : w6.cell? ⟨ob, 7, none⟩ = some (.bool (((n6 : Nat) : Int) == 0)) := hrow.cell (i := 7) (by omega)
 have m8 : w6.cell? ⟨ob, 8, none⟩ = some (.slice A7 n6 c7) := hrow.cell (i := 8) (by omega)
 have m9 : w6.cell? ⟨ob, 9, none⟩ = some (Value.int .i64 dn) := hrow.cell (i := 9) (by omega)
 have m10 : w6.cell? ⟨ob, 10, none⟩ = some (Value.int .i64 al) := hrow.cell (i := 10) (by omega)
 have m11 : w6.cell? ⟨ob, 11, none⟩ = some (.string cd) := hrow.cell (i := 11) (by omega)
 have q0 : w6.cell? ⟨rb, 0, none⟩ = some (Value.string ⟨#[]⟩) := res.cell (i := 0) (by omega)
 have v0 := res.frozen 0
 have q1 : w6.cell? ⟨rb, 1, none⟩ = some (Value.int .i64 0) := res.cell (i := 1) (by omega)
 have v1 := res.frozen 1
 have q2 : w6.cell? ⟨rb, 2, none⟩ = some (.slice none 0 0) := res.cell (i := 2) (by omega)
 have v2 := res.frozen 2
 have q3 : w6.cell? ⟨rb, 3, none⟩ = some (Value.int .i64 0) := res.cell (i := 3) (by omega)
 have v3 := res.frozen 3
 have q4 : w6.cell? ⟨rb, 4, none⟩ = some (Value.int .i64 0) := res.cell (i := 4) (by omega)
 have v4 := res.frozen 4
 have q5 : w6.cell? ⟨rb, 5, none⟩ = some (.slice none 0 0) := res.cell (i := 5) (by omega)
 have v5 := res.frozen 5
 have q6 : w6.cell? ⟨rb, 6, none⟩ = some (.slice none 0 0) := res.cell (i := 6) (by omega)
 have v6 := res.frozen 6
 have q7 : w6.cell? ⟨rb, 7, none⟩ = some (.bool false) := res.cell (i := 7) (by omega)
 have v7 := res.frozen 7
 have q8 : w6.cell? ⟨rb, 8, none⟩ = some (.slice none 0 0) := res.cell (i := 8) (by omega)
 have v8 := res.frozen 8
 have q9 : w6.cell? ⟨rb, 9, none⟩ = some (Value.int .i64 0) := res.cell (i := 9) (by omega)
 have v9 := res.frozen 9
 have q10 : w6.cell? ⟨rb, 10, none⟩ = some (Value.int .i64 0) := res.cell (i := 10) (by omega)
 have v10 := res.frozen 10
 have q11 : w6.cell? ⟨rb, 11, none⟩ = some (.string ⟨#[]⟩) := res.cell (i := 11) (by omega)
 have v11 := res.frozen 11
 have u0 : w6.cell? ⟨fb, 0, none⟩ = some (.int .i64 0) := flt.cell (i := 0) (by omega)
 have u1 : w6.cell? ⟨fb, 1, none⟩ = some (.int .i64 0) := flt.cell (i := 1) (by omega)
 have x0 := flt.frozen 0; have x1 := flt.frozen 1
 have lro : LtW ob w6 := hrow.lt
 have lrr : LtW rb w6 := res.lt
 have lrf : LtW fb w6 := flt.lt
 have k1 : ¬ (rb = ob) := by omega
 have k2 : ¬ (ob = rb) := by omega
 have k3 : ¬ (fb = ob) := by omega
 have k4 : ¬ (ob = fb) := by omega
 have k5 : ¬ (rb = fb) := hrf
 have k6 : ¬ (fb = rb) := fun e => hrf e.symm
 clear hrow res flt hx hbw HX HWV HT5 HOF hlo ne1 ne2 hrbo hfbo hrf hlen
 go_wp2
 refine bodyPost_ret (v := .tuple #[.agg #[.string kn, .int .i64 dl, .slice A1 Wd c1, .int .i64 e, .int .i64 q, .slice A6 (e * q) c6, .slice A2 Hh c2, .bool (((n6 : Nat) : Int) == 0), .slice A7 n6 c7, .int .i64 dn, .int .i64 al, .string cd], .agg #[.int .i64 0, .int .i64 0]]) (by simp [results, Tryd.results7, go_sem, q0, q1, q2, q3, q4, q5, q6, q7, q8, q9, q10, q11, u0, u1, lrr, lrf, k5, k6]) rfl ?_
 refine ⟨A1, c1, A2, c2, A6, c6, A7, c7, rfl, V1.out.hi ?_, V2.out.hi ?_, V5.out.hi ?_, V6.out.hi ?_, ?_⟩
 ·repeat (first | with_reducible exact Hi.refl _ _ | with_reducible refine Hi.set ?_ HRB5.out.1 _ _ | with_reducible refine Hi.set ?_ HRB5.out.2 _ _)
 ·repeat (first | with_reducible exact Hi.refl _ _ | with_reducible refine Hi.set ?_ HRB5.out.1 _ _ | with_reducible refine Hi.set ?_ HRB5.out.2 _ _)
 ·repeat (first | with_reducible exact Hi.refl _ _ | with_reducible refine Hi.set ?_ HRB5.out.1 _ _ | with_reducible refine Hi.set ?_ HRB5.out.2 _ _)
 ·repeat (first | with_reducible exact Hi.refl _ _ | with_reducible refine Hi.set ?_ HRB5.out.1 _ _ | with_reducible refine Hi.set ?_ HRB5.out.2 _ _)
 ·repeat (first | with_reducible refine Below.setCell ?_ HWB.out.1 _ | with_reducible refine Below.setCell ?_ HWB.out.2 _)
  exact HBW6.out
end
section
open Go.RowKit
open Cl Lo
open By (readS)
open Z (torN place pnt Mv To lin okT nrm keepB colP idm md redM both inv stK Sid Upw movesL turnsF waysF kindP alongB)
def s0 : ByteArray := ⟨#[226, 150, 161, 10, 194, 183, 226, 150, 136, 10, 226, 150, 136, 194, 183, 10]⟩
theorem s0_read : readS (By.bytesOf s0) = (4, .ok [[0, 1], [1, 0]]) := by kernel_rfl
theorem s0_kind (a : Option Addr) (c : Nat) (w : World) (hI : IsInts w a 4 [1, 0, 0, 1]) : Calls Tryd.prog 19 #[.agg #[.int .i64 ((4 : Nat)), .int .i64 ((2 : Nat)), .int .i64 ((2 : Nat)), .slice a 4 c]] w fun r w' => r = .returned (.tuple #[.int .i64 ((11 : Int)), .int .i64 (0)]) ∧ Below w.heap.size w w' := by
 have hC : ChOk 4 2 2 4 [1, 0, 0, 1] := ⟨.inl rfl, by omega, by omega, by omega, by omega, rfl, by intro x hx; simp at hx; omega⟩
 have hN : torN 2 2 = 2 := by decide +kernel
 have hS : Sid (stK 2 2 [1, 0, 0, 1] ((4 : Nat) : Int) 2) 2 2 := ⟨by omega, by omega, by decide +kernel, fun x h1 h2 => by
  obtain rfl : x = 1 := by omega
  decide +kernel⟩
 have hU : Upw (stK 2 2 [1, 0, 0, 1] ((4 : Nat) : Int) 2) 2 2 1 1 := ⟨by omega, by omega, by omega, by decide +kernel, fun y x h1 h2 _ => by omega, fun x h => by
  obtain rfl : x = 0 := by omega
  decide +kernel⟩
 have hv : kindP (turnsF (movesL 2 2 [1, 0, 0, 1] ((4 : Nat) : Int) 2)).length (alongB ((4 : Nat) : Int) (2 : Nat) (1 : Nat) (1 : Nat) (waysF ((4 : Nat) : Int) (2 : Nat) (1 : Nat) (1 : Nat) (movesL 2 2 [1, 0, 0, 1] ((4 : Nat) : Int) 2))) (waysF ((4 : Nat) : Int) (2 : Nat) (1 : Nat) (1 : Nat) (movesL 2 2 [1, 0, 0, 1] ((4 : Nat) : Int) 2)) = 11 := by
  have h1 : (turnsF (movesL 2 2 [1, 0, 0, 1] ((4 : Nat) : Int) 2)).length = 4 := by decide +kernel
  have h2 : waysF ((4 : Nat) : Int) (2 : Nat) (1 : Nat) (1 : Nat) (movesL 2 2 [1, 0, 0, 1] ((4 : Nat) : Int) 2) ≠ [] := by decide +kernel
  have h3 : ∀ e ∈ waysF ((4 : Nat) : Int) (2 : Nat) (1 : Nat) (1 : Nat) (movesL 2 2 [1, 0, 0, 1] ((4 : Nat) : Int) 2), e.2.1 = true := by decide +kernel
  rw [h1]
  unfold kindP
  rw [if_neg (by omega), if_neg (by omega), if_neg (by omega), if_pos rfl, if_neg h2, if_pos h3]
 have := Kind_ok 4 2 2 4 2 2 1 1 a c [1, 0, 0, 1] w hI hC hN (by omega) (by omega) hS hU
 rw [hv] at this
 exact this
theorem s0_make : ∃ (p : Int) (n5 : Nat) (X Y : Int) (l1 l2 : List Int) (l5 : List Bool) (dn al : Int) (cd : ByteArray),
  ∀ w, Tabs w → Calls Tryd.prog 7 #[.string s0] w (MkU ⟨#[112, 52, 109]⟩ p 2 2 n5 0 X Y l1 l2 l5 [] true dn al cd 0 0 w) := by
 have h6 : lift (2 + 2) (abM 2 2 (rsB [1, 0, 0, 1])) = [] := by decide +kernel
 have hn11 : ∀ w, Calls Tryd.prog 20 #[.int .i64 ((11 : Int))] w fun r w' => r = .returned (.tuple #[.string ⟨#[112, 52, 109]⟩, .int .i64 (0)]) ∧ Below w.heap.size w w' := fun w => by
  have h := Name_any 11 w
  have e : nmV 11 = .tuple #[.string ⟨#[112, 52, 109]⟩, .int .i64 (0)] := by unfold nmV; rw [if_neg (by omega)]; rfl
  rwa [e] at h
 exact ⟨_, _, _, _, _, _, _, _, _, _, fun w hT => hMake_ok s0 4 [[0, 1], [1, 0]] w hT (by decide +kernel) s0_read 2 2 4 2 [1, 0, 0, 1] rfl rfl rfl rfl (by decide +kernel) (by omega) 11 ⟨#[112, 52, 109]⟩ _ _ _ [] _ _ _ 0 _ _ _ (Lib.hid s0_kind) (Lib.hid hn11) rfl rfl rfl rfl rfl rfl (by rw [h6]; rfl) (by rw [h6]; rfl) rfl rfl rfl⟩
set_option maxRecDepth 100000 in
set_option maxHeartbeats 8000000 in
theorem alive_top (w : World) (hT : Tabs w) : Calls Tryd.prog 5 #[] w fun e w' => e = .returned (.bool true) ∧ Below w.heap.size w w' := by
 obtain ⟨p, n5, X, Y, l1, l2, l5, dn, al, cd, HM⟩ := s0_make
 unfold MkU at HM
 have HM := Lib.hid HM
 have HT := Lib.hid hT
 clear hT
 unfold s0 at HM
 go_enter Tryd.func5, Tryd.ntmps5
 go_wp2_with fail
 refine (HM.out _ (HT.out.below blw)).mono ?_
 rintro r w1 ⟨A1, c1, A2, c2, A5, c5, A6, c6, rfl, i1, i2, i5, i6, hb⟩
 have HB : Hid (Below w.heap.size w w1) := Lib.hid (Below.trans blw (hb.mono bnd))
 clear hb i1 i2 i5 i6
 go_wp2
 go_ret
 have hb9 := HB.out
 have hz := hb9.size
 refine ⟨rfl, ?_⟩
 repeat (first | exact hb9 | with_reducible refine bExtW ?_ (by first | exact hz | (simp only [size_extW, World.size_alloc]; omega)) | with_reducible refine Below.alloc ?_ (by first | exact hz | (simp only [size_extW, World.size_alloc]; omega)) _)
end
section
open Go.RowKit
open Cl
set_option maxRecDepth 100000 in
set_option maxHeartbeats 8000000 in
theorem Hangs_ok (W H : Nat) (a : Option Addr) (n c : Nat) (bs : List Bool) (w : World) (hi : IsBools w a n bs) (h1 : W ≤ 64) (h2 : H ≤ 64) (hn : n = W * H) (he : wrC W H n = 0) :
  Calls Tryd.prog 13 #[.agg #[.int .i64 (W), .int .i64 (H), .slice a n c]] w fun e w' => e = .returned (.tuple #[.bool (((lift (W+H) (abM W H bs)).length : Int) == 0), .int .i64 (0)]) ∧ Below w.heap.size w w' := by
 have HS := Lib.hid (fun w (hi : IsBools w a n bs) => Lift_ok W H a n c bs w hi h1 h2 hn he)
 have HI := Lib.hid hi
 clear hi he hn
 generalize lift (W+H) (abM W H bs) = L at *
 go_enter Tryd.func13, Tryd.ntmps13
 go_wp2_with fail
 refine (HS.out _ (HI.out.below blw)).mono ?_
 rintro r w1 ⟨A, c', rfl, hL, hb, _⟩
 obtain ⟨E, d, rfl⟩ := bExt hb
 clear hb hL
 go_wp2
 go_ret2
 exact ⟨rfl, blw⟩
end
end Go.Proofs.YtajdoobkfbdgoaaDoor
