/- Lemmas on which the law of this seat rests; each states its own conditions. -/
import Derived.Test.YtajdoobkfbdgoaaDoorB25
import Derived.Test.YtajdoobkfbdgoaaDoorB07
import Derived.Lib.ConvBytes
set_option linter.unusedVariables false
set_option linter.unusedSimpArgs false
namespace Go.Proofs.YtajdoobkfbdgoaaDoor
section
open Go.RowKit
def bytesOf (s : ByteArray) : List Nat := s.data.toList.map UInt8.toNat
theorem bytesOf_len (s : ByteArray) : (bytesOf s).length = s.size := by
 unfold bytesOf ByteArray.size
 rw [List.length_map, Array.length_toList]
theorem bytesOf_lt (s : ByteArray) : ∀ x ∈ bytesOf s, x < 256 := by
 intro x hx
 simp only [bytesOf, List.mem_map] at hx
 obtain ⟨y, _, rfl⟩ := hx
 exact y.toNat_lt
theorem bytesOf_str {L : List Nat} (h : ∀ x ∈ L, x < 256) : bytesOf (strOf L) = L := by
 unfold bytesOf strOf
 rw [List.toList_toArray, List.map_map]
 conv => rhs; rw [← List.map_id L]
 refine List.map_congr_left fun x hx => ?_
 have := h x hx
 simp [Nat.mod_eq_of_lt this]
theorem bytesOf_inj {s t : ByteArray} (h : bytesOf s = bytesOf t) : s = t := by
 unfold bytesOf at h
 have h1 : s.data.toList = t.data.toList := by
  apply List.ext_getElem?
  intro i
  have h2 := congrArg (fun l : List Nat => l[i]?) h
  simp only [List.getElem?_map] at h2
  cases e1 : s.data.toList[i]? with
  | none => cases e2 : t.data.toList[i]? with
   | none => rfl
   | some y => rw [e1, e2] at h2; cases h2
  | some x => cases e2 : t.data.toList[i]? with
   | none => rw [e1, e2] at h2; cases h2
   | some y =>
    rw [e1, e2] at h2
    simp only [Option.map_some, Option.some.injEq] at h2
    rw [UInt8.toNat_inj.1 h2]
 cases s; cases t
 congr 1
 exact Array.ext' h1
set_option maxRecDepth 100000 in
set_option maxHeartbeats 8000000 in
theorem cbad_any (p : Int) (w : World) : Calls Tryd.prog 24 #[.int .i64 (p)] w fun e w' => e = .returned (.tuple #[.agg #[.int .i64 (0), .int .i64 (0), .slice none 0 0], .agg #[.int .i64 (2), .int .i64 (p)]]) ∧ Below w.heap.size w w' := by
 go_enter Tryd.func24, Tryd.ntmps24
 go_wp2
 refine bodyPost_ret (v := .tuple #[.agg #[.int .i64 (0), .int .i64 (0), .slice none 0 0], .agg #[.int .i64 (2), .int .i64 (p)]]) (by simp [results, Tryd.results24, go_sem]) rfl ⟨rfl, blw⟩
def UnpPost (res : CRes × Nat × Nat) (w : World) (r : Ending) (w' : World) : Prop :=
 (match res with
  | (.bad p, _, _) => r = .returned (.tuple #[.agg #[.int .i64 (0), .int .i64 (0), .slice none 0 0], .agg #[.int .i64 (2), .int .i64 (p)]])
  | (.ok bits, W, H) => ∃ A C, r = .returned (.tuple #[.agg #[.int .i64 (W), .int .i64 (H), .slice A bits.length C], .agg #[.int .i64 (0), .int .i64 (0)]]) ∧ OkT w' A bits.length C bits) ∧ Below w.heap.size w w'
theorem bytesOf_get (s : ByteArray) {k : Nat} (h : k < s.size) : (bytesOf s).getD k 0 = (s[k]'h).toNat := by
 have hk : k < s.data.toList.length := by rw [Array.length_toList]; exact h
 unfold bytesOf
 rw [List.getD_eq_getElem?_getD, List.getElem?_map, List.getElem?_eq_getElem hk]
 rfl
theorem index_at (s : ByteArray) {k : Nat} (h : k < (bytesOf s).length) (w : World) : (Instr.index 9 (.string s) (.int .i64 (k))).run Tryd.prog w = .ok (.int .u8 ((bytesOf s).getD k 0 : Nat)) w := by
 have hk : k < s.size := by rwa [bytesOf_len] at h
 rw [run_index_string (P := Tryd.prog) w 9 s .i64 (k : Int) Tryd.underlying9, dif_pos (by omega), bytesOf_get s hk]
 rfl
theorem index_mark {k : Nat} (h : k < 3) (w : World) : (Instr.index 9 (.string { data := #[74, 81, 49] }) (.int .i64 (k))).run Tryd.prog w = .ok (.int .u8 ([74, 81, 49].getD k 0 : Nat)) w := by
 rw [run_index_string (P := Tryd.prog) w 9 _ .i64 (k : Int) Tryd.underlying9, dif_pos (by constructor; omega; show (k : Int) < 3; omega)]
 have hk : k = 0 ∨ k = 1 ∨ k = 2 := by omega
 rcases hk with rfl | rfl | rfl <;> rfl
theorem unp_mark {B : List Nat} {k : Nat} (hk : k < 3) (h : ∀ j, j < k → j < B.length ∧ B.getD j 0 = [74, 81, 49].getD j 0) (hb : k = B.length ∨ B.getD k 0 ≠ [74, 81, 49].getD k 0) : unp B = (.bad k, 0, 0) := by
 unfold unp
 have hk3 : k = 0 ∨ k = 1 ∨ k = 2 := by omega
 rcases hk3 with rfl | rfl | rfl
 ·rw [if_pos (show 0 = B.length ∨ B.getD 0 0 ≠ 74 from hb)]
 ·obtain ⟨a0, b0⟩ := h 0 (by omega)
  rw [if_neg (by rintro (h | h); omega; exact h b0), if_pos (show 1 = B.length ∨ B.getD 1 0 ≠ 81 from hb)]
 ·obtain ⟨a0, b0⟩ := h 0 (by omega)
  obtain ⟨a1, b1⟩ := h 1 (by omega)
  rw [if_neg (by rintro (h | h); omega; exact h b0), if_neg (by rintro (h | h); omega; exact h b1), if_pos (show 2 = B.length ∨ B.getD 2 0 ≠ 49 from hb)]
theorem unp_rest {B : List Nat} (h : ∀ j, j < 3 → j < B.length ∧ B.getD j 0 = [74, 81, 49].getD j 0) : unp B = if 3 = B.length ∨ 64 < B.getD 3 0 then (.bad 3, 0, 0)
 else if 4 = B.length ∨ 64 < B.getD 4 0 then (.bad 4, 0, 0)
 else (unF B (B.getD 3 0) (B.getD 4 0) (B.getD 4 0 + 1) 0 5 [] [], B.getD 3 0, B.getD 4 0) := by
 unfold unp
 obtain ⟨a0, b0⟩ := h 0 (by omega)
 obtain ⟨a1, b1⟩ := h 1 (by omega)
 obtain ⟨a2, b2⟩ := h 2 (by omega)
 rw [if_neg (by rintro (h | h); omega; exact h b0), if_neg (by rintro (h | h); omega; exact h b1), if_neg (by rintro (h | h); omega; exact h b2)]
def fF (e p : Int) : Nat → Value := fun j => if j = 0 then .int .i64 e else .int .i64 p
theorem fF_alloc (w : World) (e p : Int) : (w.alloc (.cells #[.int .i64 e, .int .i64 p] 28)).rowIs w.heap.size 28 2 (fF e p) :=
 World.rowIs_alloc w #[.int .i64 e, .int .i64 p] 28 (fF e p) (by
  intro i hi
  have hi2 : i = 0 ∨ i = 1 := by simp at hi; omega
  rcases hi2 with rfl | rfl <;> rfl)
theorem allocTru (w : World) : Sem.run Tryd.prog (Instr.alloc 33 true (.tuple #[])) w = .ok (.pointer (some ⟨w.heap.size, 0, none⟩)) (w.alloc (.cells #[.int .i64 (0), .int .i64 (0), .slice none 0 0] 33)) := by go_simp
theorem and_bit' : ∀ z : Fin 256, ∀ r : Fin 8, ((z.val &&& (128 / 2 ^ r.val)) != 0) = bitAt z.val r.val := by decide +kernel
theorem and_bit {z r : Nat} (hz : z < 256) (hr : r < 8) : ((z &&& (128 / 2 ^ r)) != 0) = bitAt z r := and_bit' ⟨z, hz⟩ ⟨r, hr⟩
theorem int_ne_nat (n : Nat) : ((n : Int) != 0) = (n != 0) := by
 by_cases h : n = 0
 ·subst h; rfl
 ·have h1 : (n != 0) = true := by simpa using h
  have h2 : ((n : Int) != 0) = true := by simp; omega
  rw [h1, h2]
def StrOfPost (S : ByteArray) (w : World) (e : Ending) (w' : World) : Prop := ∃ g n c, e = .returned (.slice (some ⟨g, 0, none⟩) n c) ∧ (∀ E d, (convert 78 9 (.slice (some ⟨g, 0, none⟩) n c)).run Tryd.prog (extW w' E d) = .ok (.string S) (extW w' E d)) ∧ Below w.heap.size w w'
theorem strOfPost {L : List Nat} {w : World} (hL : ∀ x ∈ L, x < 256) : ∀ e w', BytesPost L w e w' → StrOfPost (strOf L) w e w' := by
 rintro e w' ⟨g, rfl, hI, hb, _⟩
 refine ⟨g, _, _, rfl, fun E d => ?_, hb⟩
 have hI := hI.below (bExtW (Below.refl _ _) (Nat.le_refl _) : Below _ w' (extW w' E d))
 refine conv_str hL fun j hj => ?_
 obtain ⟨b, o, e, _, hc⟩ := hI.2 (by omega)
 cases e
 exact hc j hj
theorem punchL_lt (r : List Bool) : ∀ x ∈ punchL r, x < 256 := by
 intro x hx
 unfold punchL at hx
 obtain ⟨y, _, rfl⟩ := List.mem_map.1 hx
 exact byt_lt _ _
theorem slice_str (s : ByteArray) (a b : Nat) (h1 : a ≤ b) (h2 : b ≤ s.size) (w : World) : (Instr.slice 9 (.string s) (some (.int .i64 ((a : Int)))) (some (.int .i64 ((b : Int)))) none).run Tryd.prog w = .ok (.string (s.extract a b)) w := by
 have h := run_slice_string (P := Tryd.prog) w 9 s .i64 .i64 (a : Int) (b : Int) Tryd.underlying9 (by omega) (by omega) (by omega)
 simpa using h
theorem slice_to (s : ByteArray) (b : Nat) (h2 : b ≤ s.size) (w : World) : (Instr.slice 9 (.string s) none (some (.int .i64 ((b : Int)))) none).run Tryd.prog w = .ok (.string (s.extract 0 b)) w := by
 have h := run_slice_string_h (P := Tryd.prog) w 9 s Tryd.underlying9 .i64 (b : Int) (by omega) (by omega)
 simpa using h
theorem bytesOf_extract (s : ByteArray) (a n : Nat) (h : a + n ≤ s.size) : bytesOf (s.extract a (a + n)) = ((bytesOf s).drop a).take n := by
 unfold bytesOf
 rw [ByteArray.data_extract, Array.toList_extract, ← List.map_drop, ← List.map_take]
 congr 1
 simp [List.extract, Nat.add_sub_cancel_left]
theorem belowX4 {w w4 : World} {E F : Array Obj} {d e : Nat} (h : Below (extW w E d).heap.size (extW w E d) w4) : Below w.heap.size w (extW w4 F e) := by
 have h1 : Below w.heap.size w (extW w E d) := bExtW (Below.refl _ _) (Nat.le_refl _)
 have h2 := h1.trans (h.mono h1.size)
 exact bExtW h2 h2.size
theorem str_ne {s t : ByteArray} (h : s ≠ t) : (s.toList == t.toList) = false := by
 rw [ByteArray.toList_eq, ByteArray.toList_eq, beq_eq_false_iff_ne]
 intro e
 apply h
 cases s; cases t
 congr 1
 exact Array.ext' e
theorem FB.grow {base mb : Nat} {W H : Int} {L : List Bool} {W1 w w' : World} {v : Value} (h : FB base mb W H L W1 v w) (hb : Below w.heap.size w w') (hm : mb < base) : FB base mb W H L W1 v w' :=
 ⟨rowBelow h.row hb (Nat.lt_of_lt_of_le hm h.bel.size), ownBelow h.own hb, hb.os.trans h.bel.os, hb.tape.trans h.bel.tape, hb.output.trans h.bel.output, Nat.le_trans h.bel.size hb.size, fun k hk hkm => (hb.block k (Nat.lt_of_lt_of_le hk h.bel.size)).trans (h.bel.block k hk hkm)⟩
theorem FB.appL {base mb : Nat} {W H : Int} {L R : List Bool} {W1 w w2 : World} {v v' : Value} (h : FB base mb W H L W1 v w) (hm : mb < base) (hown : w2.ownsRow base 4 1 v' (L.length + R.length) (L.map Value.bool ++ R.map Value.bool)) (hg : w.grownBy w2 v.ownBlock) : FB base mb W H (L ++ R) W1 v' (w2.setCell ⟨mb, 2, none⟩ v') := by
 have hb : Below base w w2 := belowGrown hg h.bel.size (fun k hk => (h.own.lt k hk).1)
 refine ⟨?_, ?_, ?_⟩
 ·refine ((rowBelow h.row hb hm).set 2 _).congr fun i hi => ?_
  have hi3 : i = 0 ∨ i = 1 ∨ i = 2 := by omega
  rcases hi3 with rfl | rfl | rfl <;> rfl
 ·rw [List.length_append, List.map_append]
  exact ownsRow_setCell_below hown (a := ⟨mb, 2, none⟩) hm _
 ·refine ⟨hb.os.trans h.bel.os, hb.tape.trans h.bel.tape, hb.output.trans h.bel.output, ?_, fun k hk hkm => ?_⟩
  ·rw [World.size_setCell]; exact Nat.le_trans h.bel.size hb.size
  ·rw [Below.heap_setCell _ _ _ k (fun e => hkm (by rw [e])), hb.block k hk, h.bel.block k hk hkm]
def Apart (A : Option Addr) (base : Nat) (v : Value) (w : World) : Prop := ∀ b o, A = some ⟨b, o, none⟩ → base ≤ b ∧ v.ownBlock ≠ some b ∧ b < w.heap.size
theorem Apart.step {A : Option Addr} {base mb n : Nat} {v v' : Value} {w w2 : World} {row : List Bool} (h : Apart A base v w) (hI : IsBools w A n row) (hm : mb < base) (hg : w.grownBy w2 v.ownBlock) (hs : w.heap.size ≤ w2.heap.size) (hat : v'.ownBlock = v.ownBlock ∨ v'.ownBlock = some w.heap.size) :
  Apart A base v' (w2.setCell ⟨mb, 2, none⟩ v') ∧ IsBools (w2.setCell ⟨mb, 2, none⟩ v') A n row := by
 refine ⟨fun b o e => ?_, hI.1, fun hn => ?_⟩
 ·obtain ⟨h1, h2, h3⟩ := h b o e
  refine ⟨h1, fun e2 => ?_, by rw [World.size_setCell]; omega⟩
  rcases hat with h4 | h4
  ·exact h2 (by rw [← h4, e2])
  ·rw [h4] at e2
   injection e2 with e2
   omega
 ·obtain ⟨b, o, e, hlt, hc⟩ := hI.2 hn
  obtain ⟨h1, h2, h3⟩ := h b o e
  refine ⟨b, o, e, by rw [World.size_setCell]; omega, fun j hj => ?_⟩
  rw [← hc j hj]
  refine (World.cell?_of_block (Below.heap_setCell _ _ _ b (fun e2 => by simp at e2; omega))).trans ?_
  exact World.cell?_of_block (hg.block b h3 (fun e2 => h2 e2.symm))
theorem isBools_cells {w : World} {A : Option Addr} {n : Nat} {row : List Bool} (h : IsBools w A n row) (hn : 0 < n) : ∃ b of, A = some ⟨b, of, none⟩ ∧ ∀ j u, (row.map Value.bool)[j]? = some u → w.cell? ⟨b, of + j, none⟩ = some u := by
 obtain ⟨b, o, e, _, hc⟩ := h.2 hn
 refine ⟨b, o, e, fun j u hj => ?_⟩
 have hjl : j < row.length := by
  have := (List.getElem?_eq_some_iff.1 hj).1
  simpa using this
 rw [hc j (by rw [← h.1]; exact hjl)]
 rw [List.getElem?_map, List.getElem?_eq_getElem hjl] at hj
 rw [show row.getD j false = row[j] by simp [List.getD, hjl]]
 exact hj
theorem okT_set {w : World} {a : Option Addr} {n c q i : Nat} {bs : List Bool} {v : Value} (h : OkT w a n c bs) (hm : ∀ b o, a = some ⟨b, o, none⟩ → b ≠ q) : OkT (w.setCell ⟨q, i, none⟩ v) a n c bs :=
 ((BelowX.refl (base := w.heap.size) (mb := q) (W := w) (Nat.le_refl _)).set i v).okT h rfl hm
theorem apart_mk {A : Option Addr} {base base2 k n cp m : Nat} {v : Value} {wo wr wz : World} {xs ys : List Value} (ho : wo.ownsRow base 4 1 v n xs) (hr : wr.ownsRow base2 4 1 (.slice A k cp) m ys) (h2 : base2 = wo.heap.size) (hb : base ≤ wo.heap.size) (hsz : wr.heap.size ≤ wz.heap.size) : Apart A base v wz := fun b o e => by
 have h1 := hr.lt b (by rw [e]; rfl)
 refine ⟨by omega, fun e2 => ?_, by omega⟩
 have := (ho.lt b e2).2
 omega
theorem rep_succ (acc row : List Bool) (k : Nat) : acc ++ (List.replicate (k + 1) row).flatten = (acc ++ (List.replicate k row).flatten) ++ row := by
 rw [List.replicate_succ', List.flatten_append, List.append_assoc]; simp
theorem bools_one (l : List Bool) : ∀ u ∈ l.map Value.bool, u.oneCell' = true := by
 intro u hu
 obtain ⟨b, _, rfl⟩ := List.mem_map.1 hu
 rfl
theorem strBytes (S : ByteArray) : ∃ (capF : World → Nat) (bwF : World → World), (∀ w : World, (convert 9 78 (.string S)).run Tryd.prog w = .ok (.slice (some ⟨w.heap.size, 0, none⟩) S.size (capF w)) (bwF w)) ∧
  ∀ w : World, Below w.heap.size w (bwF w) ∧ IsB8 (bwF w) (some ⟨w.heap.size, 0, none⟩) S.size (bytesOf S) := by
 refine ⟨fun w => grownCap w S.size 0 5, fun w => Go.Lib.bytesWorld w 5 S, fun w => Go.Lib.run_convert_string_bytes w 9 78 5 S Tryd.underlying9 Tryd.underlying78 Tryd.underlying5, fun w => ⟨⟨?_, ?_, ?_, ?_, fun k hk => Go.Lib.bytesWorld_at_old w 5 S k hk⟩, bytesOf_len S, fun hn => ⟨_, 0, rfl, ?_, fun j hj => ?_⟩⟩⟩
 ·rfl
 ·rfl
 ·rfl
 ·show w.heap.size ≤ (Go.Lib.bytesWorld w 5 S).heap.size
  rw [Go.Lib.bytesWorld_size]; omega
 ·show w.heap.size < (Go.Lib.bytesWorld w 5 S).heap.size
  rw [Go.Lib.bytesWorld_size]; omega
 ·show (Go.Lib.bytesWorld w 5 S).cell? _ = _
  rw [Nat.zero_add, Go.Lib.bytesWorld_cell w 5 S j hj]
  refine congrArg (fun x : Nat => some (Value.int .u8 (x : Int))) ?_
  unfold bytesOf
  rw [List.getD_eq_getElem?_getD, List.getD_eq_getElem?_getD, List.getElem?_map]
  have hjl : j < S.data.toList.length := by rw [Array.length_toList]; exact hj
  rw [List.getElem?_eq_getElem hjl]
  rfl
set_option maxRecDepth 100000 in
theorem lfCd30 {P : Prop} (h : P := by
 go_wp2_with fail
 refine (cbad_any (p : Int) _).mono ?_
 rintro r w8 ⟨rfl, hb8⟩
 have hb8 : Below wx.heap.size wx w8 := Below.trans blw (hb8.mono bnd)
 have hr8 := rowBelow HRB.out hb8 HRB.out.lt
 have hf8 := rowBelow HFB.out hb8 HFB.out.lt
 have r0 : w8.cell? ⟨q, 0, none⟩ = some (.int .i64 (0)) := hr8.cell (i := 0) (by omega)
 have r1 : w8.cell? ⟨q, 1, none⟩ = some (.int .i64 (0)) := hr8.cell (i := 1) (by omega)
 have r2 : w8.cell? ⟨q, 2, none⟩ = some (.slice none 0 0) := hr8.cell (i := 2) (by omega)
 have f0 := hr8.frozen 0; have f1 := hr8.frozen 1; have f2 := hr8.frozen 2
 have s0 : w8.cell? ⟨q + 1, 0, none⟩ = some (.int .i64 (0)) := hf8.cell (i := 0) (by omega)
 have s1 : w8.cell? ⟨q + 1, 1, none⟩ = some (.int .i64 (0)) := hf8.cell (i := 1) (by omega)
 have g0 := hf8.frozen 0; have g1 := hf8.frozen 1
 have lr : LtW q w8 := hr8.lt
 have lf : LtW (q + 1) w8 := hf8.lt
 have HBF : Hid (Below q w w8) := Lib.hid (HBW.out.trans (hb8.mono (Nat.le_of_lt HRB.out.lt)))
 clear hb8 hr8 hf8 HRB HFB HBW
 go_wp2
 refine bodyPost_ret (v := .tuple #[.agg #[.int .i64 (0), .int .i64 (0), .slice none 0 0], .agg #[.int .i64 (2), .int .i64 ((p : Int))]]) (by simp [results, Tryd.results8, go_sem, r0, r1, r2, s0, s1]) rfl ?_
 unfold UnpPost
 rw [HU.out]
 refine ⟨rfl, ?_⟩
 rw [HQE.out]
 exact ((((HBF.out.setCell bnq _).setCell bnq _).setCell bnq _).setCell bnq _).setCell bnq _) : P := h
set_option maxRecDepth 100000 in
theorem lfCd31 {P : Prop} (h : P := by
 have hbr := belowX4 (F := E) (e := d) hb4
 have hb9 : Below wo.heap.size wo (extW w4 E d) := by
  have h1 := HB.out
  rw [HBS2.out] at h1
  exact h1.trans (hbr.mono h1.size)
 have HI9 := Lib.hid (HI7.out.below hbr)
 have HF9 := Lib.hid (HFBx.out.grow hb9 hmbb)
 have HAP := Lib.hid (apart_mk HFBx.out.own HO.out HBS2.out HFBx.out.bel.size hbr.size)
 have HCP : Hid (A = none → cp = 0) := Lib.hid fun e => by subst e; exact own_none HO.out
 clear hbr hb9 hb4 hcv HPU hsl HO HB HFBx HLAx HRx HFx HBx m0x m1x lmx HS1 HS2 q1 q2 HU3
 generalize extW w4 E d = wz at *
 go_wp2_with fail
 go_loopw [172] (fun iv w2 => ∃ (k : Nat) (v : Value), k ≤ x ∧ iv = .int .i64 k ∧ FB base mb W H (acc ++ (List.replicate k row).flatten) W3 v w2 ∧ IsBools w2 A W row ∧ Apart A base v w2) (fun iv _ => x - (intOf iv).toNat)
 case atStart => exact ⟨0, v, by omega, rfl, by simpa using HF9.out, HI9.out, HAP.out⟩
 case round =>
  obtain ⟨k, v2, hk, rfl, hfb, hI, hap⟩ := hrel
  by_cases hkx : k < x
  ·have hrw := hfb.row
   have cM : wr.cell? ⟨mb, 2, none⟩ = some v2 := hrw.cell (i := 2) (by omega)
   have fM := hrw.frozen 2
   have lm : LtW mb wr := hrw.lt
   have hsb := hfb.bel.size
   have HFBk := Lib.hid hfb; have HIk := Lib.hid hI; have HAPk := Lib.hid hap
   clear hrw hfb hI hap
   have HRS := Lib.hid (rep_succ acc row k)
   have hLn : (acc ++ (List.replicate k row).flatten).length ≤ 8192 := by
    rw [List.length_append, HACC.out, rep_len HRL.out]
    have h1 : y * W ≤ 64 * 64 := Nat.mul_le_mul (by omega) (by omega)
    have h2 : k * W ≤ 64 * 64 := Nat.mul_le_mul (by omega) (by omega)
    omega
   generalize acc ++ (List.replicate k row).flatten = L at *
   go_wp2_with (at_builtin; refine wpAppV okBools rfl (.tmp 175) (.tmp 176) rfl base v2 L.length (L.map Value.bool) A W cp (row.map Value.bool) rfl HFBk.out.own rfl HCP.out (by rw [List.length_map, HRL.out]) (isBools_cells HIk.out) (bools_one row) (by omega) (by omega) hsb ?_)
   intro v' w2 hown2 hg2 hat2
   have hfb2 := HFBk.out.appL hmbb (R := row) (by rw [HRL.out]; exact hown2) hg2
   have hst := HAPk.out.step HIk.out hmbb hg2 hg2.size hat2
   obtain ⟨A', cp', rfl⟩ := own_form hown2
   have hb2 : Below base wr w2 := belowGrown hg2 hsb (fun k hk => (HFBk.out.own.lt k hk).1)
   have cM2 : w2.cell? ⟨mb, 2, none⟩ = some v2 := (hb2.cell (p := ⟨mb, 2, none⟩) (by simp; omega)).trans cM
   have fM2 : w2.frozen? ⟨mb, 2, none⟩ = false := (hb2.frozen (p := ⟨mb, 2, none⟩) (by simp; omega)).trans fM
   have HNF := Lib.hid hfb2; have HNS := Lib.hid hst
   clear hfb2 hst hown2 hg2 hat2 hb2 cM fM
   go_wp2
   go_roundw
   case rel => exact ⟨k + 1, _, by omega, by go_num, by rw [HRS.out]; exact HNF.out, HNS.out.2, HNS.out.1⟩
   case measure => simp [intOf]; omega
  ·obtain rfl : x = k := by omega
   have HFBk := Lib.hid hfb; have HIk := Lib.hid hI
   clear hfb hI hap
   go_wp2
   go_roundw
   case rel => exact ⟨y + x, p + 1 + LG, f, v2, A, W, cp, row, _, by go_num, rfl, by go_num, by omega, by omega, by omega, by omega, by omega, HNX, HFBk.out, HIk.out, by omega, by rw [List.length_append, HACC.out, rep_len HRL.out, Nat.add_mul]⟩
   case measure => simp [intOf]; omega) : P := h
set_option maxRecDepth 100000 in
theorem lfCd32 {P : Prop} (h : P := by
 have hbx : Below W0.heap.size W0 (extW W0 E0 d0) := bExtW (Below.refl _ _) (Nat.le_refl _)
 have HRB := Lib.hid (rowBelow HR0.out hbx HR0.out.lt)
 have HFB := Lib.hid (rowBelow HF0.out hbx HF0.out.lt)
 have HBW : Hid (Below q w (extW W0 E0 d0)) := Lib.hid (HB0.out.trans (hbx.mono (by omega)))
 clear hbx
 generalize extW W0 E0 d0 = wx at *
 go_wp2_with fail
 refine (cbad_any ((3 : Int) + (k : Int)) _).mono ?_
 rintro r w8 ⟨rfl, hb8⟩
 have hb8 : Below wx.heap.size wx w8 := Below.trans blw (hb8.mono bnd)
 have hr8 := rowBelow HRB.out hb8 HRB.out.lt
 have hf8 := rowBelow HFB.out hb8 HFB.out.lt
 have r0 : w8.cell? ⟨q, 0, none⟩ = some (.int .i64 (0)) := hr8.cell (i := 0) (by omega)
 have r1 : w8.cell? ⟨q, 1, none⟩ = some (.int .i64 (0)) := hr8.cell (i := 1) (by omega)
 have r2 : w8.cell? ⟨q, 2, none⟩ = some (.slice none 0 0) := hr8.cell (i := 2) (by omega)
 have f0 := hr8.frozen 0; have f1 := hr8.frozen 1; have f2 := hr8.frozen 2
 have s0 : w8.cell? ⟨q + 1, 0, none⟩ = some (.int .i64 (0)) := hf8.cell (i := 0) (by omega)
 have s1 : w8.cell? ⟨q + 1, 1, none⟩ = some (.int .i64 (0)) := hf8.cell (i := 1) (by omega)
 have g0 := hf8.frozen 0; have g1 := hf8.frozen 1
 have lr : LtW q w8 := hr8.lt
 have lf : LtW (q + 1) w8 := hf8.lt
 have HBF : Hid (Below q w w8) := Lib.hid (HBW.out.trans (hb8.mono (Nat.le_of_lt HRB.out.lt)))
 clear hb8 hr8 hf8 HRB HFB HBW
 go_wp2
 refine bodyPost_ret (v := .tuple #[.agg #[.int .i64 (0), .int .i64 (0), .slice none 0 0], .agg #[.int .i64 (2), .int .i64 (((3 : Int) + (k : Int)))]]) (by simp [results, Tryd.results8, go_sem, r0, r1, r2, s0, s1]) rfl ?_
 unfold UnpPost
 rw [HU.out]
 refine ⟨rfl, ?_⟩
 rw [HQE.out]
 exact ((((HBF.out.setCell bnq _).setCell bnq _).setCell bnq _).setCell bnq _).setCell bnq _) : P := h
set_option maxRecDepth 100000 in
theorem lfCd33 {P : Prop} (h : P := by
 have hbx : Below W0.heap.size W0 (extW W0 (E0 ++ E) d) := bExtW (Below.refl _ _) (Nat.le_refl _)
 have HRB := Lib.hid (rowBelow HR0.out hbx HR0.out.lt)
 have HFB := Lib.hid (rowBelow HF0.out hbx HF0.out.lt)
 have HBW : Hid (Below q w (extW W0 (E0 ++ E) d)) := Lib.hid (HB0.out.trans (hbx.mono (by omega)))
 clear hbx
 generalize extW W0 (E0 ++ E) d = wx at *
 go_wp2_with fail
 refine (cbad_any (k : Int) _).mono ?_
 rintro r w8 ⟨rfl, hb8⟩
 have hb8 : Below wx.heap.size wx w8 := Below.trans blw (hb8.mono bnd)
 have hr8 := rowBelow HRB.out hb8 HRB.out.lt
 have hf8 := rowBelow HFB.out hb8 HFB.out.lt
 have r0 : w8.cell? ⟨q, 0, none⟩ = some (.int .i64 (0)) := hr8.cell (i := 0) (by omega)
 have r1 : w8.cell? ⟨q, 1, none⟩ = some (.int .i64 (0)) := hr8.cell (i := 1) (by omega)
 have r2 : w8.cell? ⟨q, 2, none⟩ = some (.slice none 0 0) := hr8.cell (i := 2) (by omega)
 have f0 := hr8.frozen 0; have f1 := hr8.frozen 1; have f2 := hr8.frozen 2
 have s0 : w8.cell? ⟨q + 1, 0, none⟩ = some (.int .i64 (0)) := hf8.cell (i := 0) (by omega)
 have s1 : w8.cell? ⟨q + 1, 1, none⟩ = some (.int .i64 (0)) := hf8.cell (i := 1) (by omega)
 have g0 := hf8.frozen 0; have g1 := hf8.frozen 1
 have lr : LtW q w8 := hr8.lt
 have lf : LtW (q + 1) w8 := hf8.lt
 have HBF : Hid (Below q w w8) := Lib.hid (HBW.out.trans (hb8.mono (Nat.le_of_lt HRB.out.lt)))
 clear hb8 hr8 hf8 HRB HFB HBW
 go_wp2
 refine bodyPost_ret (v := .tuple #[.agg #[.int .i64 (0), .int .i64 (0), .slice none 0 0], .agg #[.int .i64 (2), .int .i64 ((k : Int))]]) (by simp [results, Tryd.results8, go_sem, r0, r1, r2, s0, s1]) rfl ?_
 unfold UnpPost
 rw [HU.out]
 refine ⟨rfl, ?_⟩
 rw [HQE.out]
 exact ((((HBF.out.setCell bnq _).setCell bnq _).setCell bnq _).setCell bnq _).setCell bnq _) : P := h
theorem lfCd34 {P : Prop} (h : P := by
 have hbx : Below wr.heap.size wr (extW wr E d) := bExtW (Below.refl _ _) (Nat.le_refl _)
 have HRB := Lib.hid (rowBelow HRw.out hbx HRw.out.lt)
 have HFB := Lib.hid (rowBelow HFw.out hbx HFw.out.lt)
 have HBW : Hid (Below q w (extW wr E d)) := Lib.hid (HBw.out.trans (hbx.mono (by omega)))
 clear hbx
 generalize extW wr E d = wx at *
 exact lfCd30) : P := h
theorem lfCd35 {P : Prop} (h : P := by
 have HRB := Lib.hid (rowBelow HRx.out hb9 HRx.out.lt)
 have HFB := Lib.hid (rowBelow HFx.out hb9 HFx.out.lt)
 have HBW : Hid (Below q w (extW w4 E d)) := Lib.hid (HBx.out.trans (hb9.mono (by omega)))
 clear hb9
 generalize extW w4 E d = wx at *
 exact lfCd30) : P := h
theorem lfCd36 {P : Prop} (h : P := by
 go_wp2_with fail
 (refine wp_region_ext (by kernel_rfl) (by kernel_rfl) ?_; (repeat (first | ((with_reducible refine ext_step (fun K hK => ?_)); go_simp; first | (refine hK _ ?_; clear hK K) | (apply Exists.intro; refine ⟨fun _ _ => ?_, hK _ ?_⟩; fail; clear hK K)))); refine wpQuiet_nil ?_; intro E d)
 clear hix
 exact lfCd34) : P := h
theorem lfCd37 {P : Prop} (h : P := by
 go_wp2_with fail
 (refine wp_region_ext (by kernel_rfl) (by kernel_rfl) ?_; (repeat (first | ((with_reducible refine ext_step (fun K hK => ?_)); go_simp; first | (refine hK _ ?_; clear hK K) | (apply Exists.intro; refine ⟨fun _ _ => ?_, hK _ ?_⟩; fail; clear hK K)))); refine wpQuiet_nil ?_; intro E d)
 exact lfCd34) : P := h
set_option maxRecDepth 100000 in
set_option maxHeartbeats 8000000 in
theorem Unpack_any (s : ByteArray) (w : World) (hs : s.size ≤ 9223372036854775807) : Calls Tryd.prog 8 #[.string s] w (UnpPost (unp (bytesOf s)) w) := by
 have hBL := bytesOf_len s
 have HLT := Lib.hid (bytesOf_lt s)
 have HIX : Hid (∀ k, k < (bytesOf s).length → ∀ w, (Instr.index 9 (.string s) (.int .i64 (k))).run Tryd.prog w = .ok (.int .u8 ((bytesOf s).getD k 0 : Nat)) w) := Lib.hid fun k h w => index_at s h w
 obtain ⟨B, hB⟩ : ∃ B, bytesOf s = B := ⟨_, rfl⟩
 have HBE := Lib.hid hB
 rw [hB] at hBL HLT HIX ⊢
 clear hB
 obtain ⟨N, hN⟩ : ∃ N, s.size = N := ⟨_, rfl⟩
 rw [hN] at hBL hs
 have HN := Lib.hid hBL
 rw [hBL] at HIX
 clear hBL
 go_enter Tryd.func8, Tryd.ntmps8
 go_wp2_with fail
 have hr0 := (tF_alloc w 0 0 (.slice none 0 0) rfl).alloc (.cells #[.int .i64 (0), .int .i64 (0)] 28)
 have hf0 := fF_alloc (w.alloc (.cells #[.int .i64 (0), .int .i64 (0), .slice none 0 0] 33)) 0 0
 have hb0 : Below w.heap.size w ((w.alloc (.cells #[.int .i64 (0), .int .i64 (0), .slice none 0 0] 33)).alloc (.cells #[.int .i64 (0), .int .i64 (0)] 28)) := blw
 rw [World.size_alloc] at hf0
 generalize (w.alloc (.cells #[.int .i64 (0), .int .i64 (0), .slice none 0 0] 33)).alloc (.cells #[.int .i64 (0), .int .i64 (0)] 28) = W0 at *
 generalize hq : w.heap.size = q at *
 have HQE := Lib.hid hq
 have HR0 := Lib.hid hr0; have HF0 := Lib.hid hf0; have HB0 := Lib.hid hb0
 have hq0 : q + 1 < W0.heap.size := hf0.lt
 clear hq hr0 hf0 hb0
 go_loopw [15] (fun i wr => ∃ (k : Nat) (E : Array Obj) (d : Nat), k ≤ 3 ∧ i = .int .i64 k ∧ Hid (∀ j, j < k → j < N ∧ B.getD j 0 = [74, 81, 49].getD j 0) ∧ wr = extW W0 E d) (fun i _ => 3 - (intOf i).toNat)
 case atStart => exact ⟨0, #[], W0.drawn, by omega, rfl, Lib.hid fun j h => absurd h (by omega), extW_zero _⟩
 case round =>
  obtain ⟨k, E0, d0, hk, rfl, HK, rfl⟩ := hrel
  by_cases hk3 : k < 3
  ·have hkN : k ≤ N := by
    rcases Nat.eq_zero_or_pos k with h | h
    ·omega
    ·have := (HK.out (k-1) (by omega)).1; omega
   have hmk := index_mark hk3
   by_cases he : k = N
   ·have t1 : ((k : Int) == (N : Int)) = true := by simp; omega
    have t2 : (k == N) = true := by simp; omega
    have HU : Hid (unp B = (.bad k, 0, 0)) := Lib.hid (unp_mark hk3 (fun j h => by rw [HN.out]; exact HK.out j h) (.inl (by rw [HN.out]; exact he)))
    clear he
    go_wp2_with fail
    (refine wp_region_ext (by kernel_rfl) (by kernel_rfl) ?_; (repeat (first | ((with_reducible refine ext_step (fun K hK => ?_)); go_simp; first | (refine hK _ ?_; clear hK K) | (apply Exists.intro; refine ⟨fun _ _ => ?_, hK _ ?_⟩; fail; clear hK K)))); refine wpQuiet_nil ?_; intro E d)
    rw [extW_extW]
    exact lfCd33
   ·have t1 : ((k : Int) == (N : Int)) = false := by simp; omega
    have t2 : (k == N) = false := by simp; omega
    have hix := HIX.out k (by omega)
    obtain ⟨x, hx⟩ : ∃ x, B.getD k 0 = x := ⟨_, rfl⟩
    obtain ⟨m, hm⟩ : ∃ m, [74, 81, 49].getD k 0 = m := ⟨_, rfl⟩
    rw [hx] at hix
    rw [hm] at hmk
    by_cases hxm : x = m
    ·subst hxm
     have t3 : ((x : Int) != (x : Int)) = false := by simp
     have t4 : (x != x) = false := by simp
     have HK2 : Hid (∀ j, j < k + 1 → j < N ∧ B.getD j 0 = [74, 81, 49].getD j 0) := Lib.hid fun j h => by
      by_cases e : j = k
      ·subst e; exact ⟨by omega, by rw [hx, hm]⟩
      ·exact HK.out j (by omega)
     clear he hx hm
     go_wp2_with fail
     (refine wp_region_ext (by kernel_rfl) (by kernel_rfl) ?_; (repeat (first | ((with_reducible refine ext_step (fun K hK => ?_)); go_simp; first | (refine hK _ ?_; clear hK K) | (apply Exists.intro; refine ⟨fun _ _ => ?_, hK _ ?_⟩; fail; clear hK K)))); refine wpQuiet_nil ?_; intro E d)
     rw [extW_extW]
     clear hix hmk
     go_wp2
     go_roundw
     case rel => exact ⟨k + 1, _, _, by omega, by go_num, HK2, rfl⟩
     case measure => simp [intOf]; omega
    ·have t3 : ((x : Int) != (m : Int)) = true := by simp; omega
     have t4 : (x != m) = true := by simp; omega
     have HU : Hid (unp B = (.bad k, 0, 0)) := Lib.hid (unp_mark hk3 (fun j h => by rw [HN.out]; exact HK.out j h) (.inr (by rw [hx, hm]; exact hxm)))
     clear he hx hm hxm
     go_wp2_with fail
     (refine wp_region_ext (by kernel_rfl) (by kernel_rfl) ?_; (repeat (first | ((with_reducible refine ext_step (fun K hK => ?_)); go_simp; first | (refine hK _ ?_; clear hK K) | (apply Exists.intro; refine ⟨fun _ _ => ?_, hK _ ?_⟩; fail; clear hK K)))); refine wpQuiet_nil ?_; intro E d)
     clear hix hmk
     rw [extW_extW]
     exact lfCd33
  ·obtain rfl : k = 3 := by omega
   have HK3 : Hid (∀ j, j < 3 → j < N ∧ B.getD j 0 = [74, 81, 49].getD j 0) := HK
   have h3N : 3 ≤ N := by have := (HK.out 2 (by omega)).1; omega
   have HUR : Hid (unp B = if 3 = N ∨ 64 < B.getD 3 0 then (.bad 3, 0, 0)
    else if 4 = N ∨ 64 < B.getD 4 0 then (.bad 4, 0, 0)
    else (unF B (B.getD 3 0) (B.getD 4 0) (B.getD 4 0 + 1) 0 5 [] [], B.getD 3 0, B.getD 4 0)) := Lib.hid (by
     have := unp_rest (B := B) (fun j h => by rw [HN.out]; exact HK.out j h)
     rwa [HN.out] at this)
   clear HK
   go_wp2_with fail
   go_loopw [36] (fun i wr => ∃ (k : Nat) (E : Array Obj) (d : Nat), k ≤ 2 ∧ i = .int .i64 k ∧ Hid (∀ j, j < k → 3 + j < N ∧ B.getD (3 + j) 0 ≤ 64) ∧ wr = extW W0 E d) (fun i _ => 2 - (intOf i).toNat)
   case atStart => exact ⟨0, _, _, by omega, rfl, Lib.hid fun j h => absurd h (by omega), rfl⟩
   case round =>
    obtain ⟨k, E0, d0, hk, rfl, HK, rfl⟩ := hrel
    by_cases hk3 : k < 2
    ·have hkN : 3 + k ≤ N := by
      rcases Nat.eq_zero_or_pos k with h | h
      ·omega
      ·have := (HK.out (k-1) (by omega)).1; omega
     have HU0 : Hid (3 + k = N ∨ 64 < B.getD (3 + k) 0 → unp B = (.bad (3 + k), 0, 0)) := Lib.hid (by
      intro h
      rw [HUR.out]
      have hk2 : k = 0 ∨ k = 1 := by omega
      rcases hk2 with rfl | rfl
      ·rw [if_pos h]
      ·have h0 : 3 < N ∧ B.getD 3 0 ≤ 64 := HK.out 0 (by omega)
       rw [if_neg (by rintro (e | e); omega; omega), if_pos h])
     by_cases he : 3 + k = N
     ·have t1 : ((3 : Int) + (k : Int) == (N : Int)) = true := by simp; omega
      have t2 : (3 + k == N) = true := by simp; omega
      have HU : Hid (unp B = (.bad (3 + k), 0, 0)) := Lib.hid (HU0.out (.inl he))
      clear he
      exact lfCd32
     ·have t1 : ((3 : Int) + (k : Int) == (N : Int)) = false := by simp; omega
      have t2 : (3 + k == N) = false := by simp; omega
      have hix0 := HIX.out (3 + k) (by omega)
      obtain ⟨x, hx⟩ : ∃ x, B.getD (3 + k) 0 = x := ⟨_, rfl⟩
      rw [hx] at hix0 HU0
      have hix : ∀ w, (Instr.index 9 (.string s) (.int .i64 ((3 : Int) + (k : Int)))).run Tryd.prog w = .ok (.int .u8 (x : Nat)) w := hix0
      by_cases hxm : x ≤ 64
      ·have t3 : decide ((64 : Int) < (x : Int)) = false := by simp; omega
       have t4 : decide (64 < x) = false := by simp; omega
       have HK2 : Hid (∀ j, j < k + 1 → 3 + j < N ∧ B.getD (3 + j) 0 ≤ 64) := Lib.hid fun j h => by
        by_cases e : j = k
        ·subst e; exact ⟨by omega, by rw [hx]; exact hxm⟩
        ·exact HK.out j (by omega)
       clear he hx hix0 hxm
       go_wp2
       go_roundw
       case rel => exact ⟨k + 1, _, _, by omega, by go_num, HK2, rfl⟩
       case measure => simp [intOf]; omega
      ·have t3 : decide ((64 : Int) < (x : Int)) = true := by simp; omega
       have t4 : decide (64 < x) = true := by simp; omega
       have HU : Hid (unp B = (.bad (3 + k), 0, 0)) := Lib.hid (HU0.out (.inr (by omega)))
       clear he hx hix0 hxm
       exact lfCd32
    ·obtain rfl : k = 2 := by omega
     have h3 : 3 < N ∧ B.getD 3 0 ≤ 64 := HK.out 0 (by omega)
     have h4 : 4 < N ∧ B.getD 4 0 ≤ 64 := HK.out 1 (by omega)
     have HUN : Hid (unp B = (unF B (B.getD 3 0) (B.getD 4 0) (B.getD 4 0 + 1) 0 5 [] [], B.getD 3 0, B.getD 4 0)) := Lib.hid (by
      rw [HUR.out, if_neg (by omega), if_neg (by omega)])
     have hi3 := HIX.out 3 (by omega)
     have hi4 := HIX.out 4 (by omega)
     obtain ⟨W, hW⟩ : ∃ W, B.getD 3 0 = W := ⟨_, rfl⟩
     obtain ⟨H, hH⟩ : ∃ H, B.getD 4 0 = H := ⟨_, rfl⟩
     rw [hW, hH] at HUN
     rw [hW] at hi3 h3
     rw [hH] at hi4 h4
     have hi3' : ∀ w, (Instr.index 9 (.string s) (.int .i64 (3 : Int))).run Tryd.prog w = .ok (.int .u8 (W : Nat)) w := hi3
     have hi4' : ∀ w, (Instr.index 9 (.string s) (.int .i64 (4 : Int))).run Tryd.prog w = .ok (.int .u8 (H : Nat)) w := hi4
     have x1 : IntKind.i64.wrap (W : Int) = (W : Int) := IntWalk.i64_in _ (by omega)
     have x2 : IntKind.i64.wrap (H : Int) = (H : Int) := IntWalk.i64_in _ (by omega)
     obtain ⟨LG, hLG⟩ : ∃ LG, (W + 7) / 8 = LG := ⟨_, rfl⟩
     have hLG8 : LG ≤ 8 := by omega
     have y1 : ((W : Int) + 7) / 8 = (LG : Int) := by omega
     have y2 : ((W : Int) + 7).tdiv 8 = (LG : Int) := by rw [Int.tdiv_eq_ediv_of_nonneg (by omega)]; omega
     have y3 : IntKind.i64.wrap (LG : Int) = (LG : Int) := IntWalk.i64_in _ (by omega)
     have HLG := Lib.hid hLG
     clear hLG
     have x3 : IntKind.i64.wrap ((3 : Int) + 1) = 4 := by decide +kernel
     have x4 : IntKind.i64.wrap (4 : Int) = 4 := by decide +kernel
     have x5 : ((3 : Int) + 1) = 4 := rfl
     clear hi3 hi4 hW hH HK HK3 HUR
     go_wp2_with fail
     (refine wp_region_ext_alloc 10 33 (some 8) _ (by kernel_rfl) (by kernel_rfl) rfl allocTru ?_; simp only [List.take_succ_cons, List.take_zero, List.drop_succ_cons, List.drop_zero]; (repeat (first | ((with_reducible refine wpV_step (fun K hK => ?_)); go_simp; first | (refine hK _ ?_; clear hK K) | (apply Exists.intro; refine ⟨fun _ _ => ?_, hK _ ?_⟩; fail; clear hK K)))); refine wpV_nil ?_; intro E d E' d'; go_simp)
     go_wp2_with fail
     have hb3 : Below W0.heap.size W0 (extW ((extW (extW W0 E0 d0) E d).alloc (.cells #[.int .i64 (W), .int .i64 (H), .slice none 0 0] 33)) E' d') := blw
     have hm3 := rowBelow (tF_alloc (extW (extW W0 E0 d0) E d) W H (.slice none 0 0) rfl) (bExtW (Below.refl _ _) (Nat.le_refl _) : Below _ _ (extW ((extW (extW W0 E0 d0) E d).alloc (.cells #[.int .i64 (W), .int .i64 (H), .slice none 0 0] 33)) E' d')) (by simp)
     have hmq : q + 1 < (extW (extW W0 E0 d0) E d).heap.size := by simp; omega
     have hsm : (extW (extW W0 E0 d0) E d).heap.size = W0.heap.size + E0.size + E.size := by simp
     rw [hsm] at hm3 hmq
     generalize extW ((extW (extW W0 E0 d0) E d).alloc (.cells #[.int .i64 (W), .int .i64 (H), .slice none 0 0] 33)) E' d' = W3 at *
     obtain ⟨mb, hmb⟩ : ∃ mb, W0.heap.size + E0.size + E.size = mb := ⟨_, rfl⟩
     rw [hmb] at hm3 hmq ⊢
     obtain ⟨base, hbase⟩ : ∃ base, base = W3.heap.size := ⟨_, rfl⟩
     have hmbb : mb < base := by rw [hbase]; exact hm3.lt
     have HR3 := Lib.hid (rowBelow HR0.out hb3 HR0.out.lt); have HF3 := Lib.hid (rowBelow HF0.out hb3 HF0.out.lt)
     have HB3 : Hid (Below q w W3) := Lib.hid (HB0.out.trans (hb3.mono (by omega)))
     have HMB := Lib.hid hm3; have HBASE := Lib.hid hbase
     clear hb3 hm3 hsm hmb hbase HR0 HF0 HB0 hi3' hi4' hq0 h3N x3 x4 x5
     obtain ⟨RES, hRES⟩ : ∃ RES, unF B W H (H + 1) 0 5 [] [] = RES := ⟨_, rfl⟩
     have HRES := Lib.hid hRES
     rw [hRES] at HUN
     clear hRES
     go_loopw [6, 10, 11] (fun pv lv yv wr => ∃ (y p f : Nat) (v : Value) (la : Option Addr) (nl cl : Nat) (last acc : List Bool), pv = .int .i64 p ∧ lv = .slice la nl cl ∧ yv = .int .i64 y ∧ y ≤ H ∧ 5 ≤ p ∧ p ≤ N ∧ p ≤ 5 + 9 * y ∧ H < y + f ∧ Hid (unF B W H f y p last acc = RES) ∧ FB base mb W H acc W3 v wr ∧ IsBools wr la nl last ∧ nl ≤ 64 ∧ acc.length = y * W) (fun _ _ yv _ => H - (intOf yv).toNat)
     case atStart => exact ⟨0, 5, H + 1, _, none, 0, 0, [], [], rfl, rfl, rfl, by omega, by omega, by omega, by omega, by omega, HRES, ⟨HMB.out, World.ownsRow_nil _ _ _ _, BelowX.refl (by have := HBASE.out; omega)⟩, ⟨rfl, fun h => by omega⟩, by omega, by simp⟩
     case round =>
      obtain ⟨y, p, f, v, la, nl, cl, last, acc, rfl, rfl, rfl, hy, h5p, hpN, hp9, hf, hres, hfb, hla, hnl, hacc⟩ := hrel
      obtain ⟨f, rfl⟩ : ∃ f', f = f' + 1 := ⟨f - 1, by omega⟩
      have HFB := Lib.hid hfb; have HLA := Lib.hid hla; have HACC := Lib.hid hacc
      have hrow := hfb.row
      have m0 : wr.cell? ⟨mb, 0, none⟩ = some (.int .i64 (W)) := hrow.cell (i := 0) (by omega)
      have m1 : wr.cell? ⟨mb, 1, none⟩ = some (.int .i64 (H)) := hrow.cell (i := 1) (by omega)
      have lm : LtW mb wr := hrow.lt
      have HRw := Lib.hid (hfb.bel.rowIs HR3.out (by omega) (by omega))
      have HFw := Lib.hid (hfb.bel.rowIs HF3.out (by omega) (by omega))
      have HBw : Hid (Below q w wr) := Lib.hid (HB3.out.trans (hfb.bel.below HBASE.out.symm (by omega) (by omega)))
      have hsw := hfb.bel.size
      clear hfb hla hacc hrow
      by_cases hyH : y < H
      ·by_cases he : p = N
       ·have t1 : ((p : Int) == (N : Int)) = true := by simp; omega
        have t2 : (p == N) = true := by simp; omega
        have HU : Hid (unp B = (.bad p, W, H)) := Lib.hid (by
         rw [HUN.out, ← hres.out]
         unfold unF
         rw [if_pos hyH, if_pos (.inl (by rw [HN.out]; exact he))])
        clear he hres HFB HLA
        exact lfCd37
       ·have t1 : ((p : Int) == (N : Int)) = false := by simp; omega
        have t2 : (p == N) = false := by simp; omega
        have hix := HIX.out p (by omega)
        obtain ⟨x, hx⟩ : ∃ x, B.getD p 0 = x := ⟨_, rfl⟩
        have hx256 : x < 256 := by rw [← hx]; exact HLT.out _ (getD_memN (by rw [HN.out]; omega))
        rw [hx] at hix
        have HU0 : Hid (x = 0 ∨ H - y < x → RES = .bad p) := Lib.hid (by
         intro h
         rw [← hres.out]
         unfold unF
         rw [hx, if_pos hyH, if_pos (.inr h)])
        have HU1 : Hid (¬ (x = 0 ∨ H - y < x) → RES = if N < p + 1 + LG then .bad N
          else if punchL (readRow W fun j => B.getD (p + 1 + j) 0) ≠ (B.drop (p + 1)).take LG ∨ (0 < y ∧ readRow W (fun j => B.getD (p + 1 + j) 0) = last) then .bad p
          else unF B W H f (y + x) (p + 1 + LG) (readRow W fun j => B.getD (p + 1 + j) 0) (acc ++ (List.replicate x (readRow W fun j => B.getD (p + 1 + j) 0)).flatten)) := Lib.hid (by
         intro h
         rw [← hres.out]
         conv => lhs; unfold unF
         rw [hx, HN.out, HLG.out, if_pos hyH, if_neg (by rintro (e | e); exact he e; exact h e)])
        have x3 : IntKind.i64.wrap (x : Int) = (x : Int) := IntWalk.i64_in _ (by omega)
        have x4 : IntKind.i64.wrap ((H : Int) - (y : Int)) = (H : Int) - (y : Int) := IntWalk.i64_in _ (by omega)
        clear hx hres
        by_cases hx0 : x = 0
        ·have t3 : ((x : Int) == 0) = true := by simp; omega
         have t4 : (x == 0) = true := by simp; omega
         have HU : Hid (unp B = (.bad p, W, H)) := Lib.hid (by rw [HUN.out, HU0.out (.inl hx0)])
         clear HFB HLA hx0
         exact lfCd36
        ·have t3 : ((x : Int) == 0) = false := by simp; omega
         have t4 : (x == 0) = false := by simp; omega
         by_cases hxb : H - y < x
         ·have t5 : decide ((H : Int) - (y : Int) < (x : Int)) = true := by simp; omega
          have HU : Hid (unp B = (.bad p, W, H)) := Lib.hid (by rw [HUN.out, HU0.out (.inr hxb)])
          clear HFB HLA
          exact lfCd36
         ·have t5 : decide ((H : Int) - (y : Int) < (x : Int)) = false := by simp; omega
          have HU2 := Lib.hid (HU1.out (by omega))
          clear HU0 HU1
          go_wp2_with fail
          (refine wp_region_ext (by kernel_rfl) (by kernel_rfl) ?_; (repeat (first | ((with_reducible refine ext_step (fun K hK => ?_)); go_simp; first | (refine hK _ ?_; clear hK K) | (apply Exists.intro; refine ⟨fun _ _ => ?_, hK _ ?_⟩; fail; clear hK K)))); refine wpQuiet_nil ?_; intro E d)
          have hbx : Below wr.heap.size wr (extW wr E d) := bExtW (Below.refl _ _) (Nat.le_refl _)
          have HFBx := Lib.hid (HFB.out.grow hbx (by omega))
          have HLAx := Lib.hid (HLA.out.below hbx)
          have HRx := Lib.hid (rowBelow HRw.out hbx HRw.out.lt)
          have HFx := Lib.hid (rowBelow HFw.out hbx HFw.out.lt)
          have HBx : Hid (Below q w (extW wr E d)) := Lib.hid (HBw.out.trans (hbx.mono (by omega)))
          have hsx := hbx.size
          have m0x := bCs hbx m0
          have m1x := bCs hbx m1
          have lmx : LtW mb (extW wr E d) := Nat.lt_of_lt_of_le lm hsx
          clear hbx HFB HLA HRw HFw HBw m0 m1 lm
          generalize extW wr E d = wo at *
          by_cases hNL : N < p + 1 + LG
          ·have t6 : decide ((N : Int) < (p : Int) + 1 + (LG : Int)) = true := by simp; omega
           have HU : Hid (unp B = (.bad N, W, H)) := Lib.hid (by rw [HUN.out, HU2.out, if_pos hNL])
           have HRB := HRx; have HFB := HFx; have HBW := HBx
           obtain ⟨wx, hwx⟩ : ∃ wx, wx = wo := ⟨_, rfl⟩
           subst hwx
           clear hix HFBx HLAx m0x m1x lmx HRx HFx HBx
           go_wp2_with fail
           refine (cbad_any (N : Int) _).mono ?_
           rintro r w8 ⟨rfl, hb8⟩
           have hb8 : Below wx.heap.size wx w8 := Below.trans blw (hb8.mono bnd)
           have hr8 := rowBelow HRB.out hb8 HRB.out.lt
           have hf8 := rowBelow HFB.out hb8 HFB.out.lt
           have r0 : w8.cell? ⟨q, 0, none⟩ = some (.int .i64 (0)) := hr8.cell (i := 0) (by omega)
           have r1 : w8.cell? ⟨q, 1, none⟩ = some (.int .i64 (0)) := hr8.cell (i := 1) (by omega)
           have r2 : w8.cell? ⟨q, 2, none⟩ = some (.slice none 0 0) := hr8.cell (i := 2) (by omega)
           have f0 := hr8.frozen 0; have f1 := hr8.frozen 1; have f2 := hr8.frozen 2
           have s0 : w8.cell? ⟨q + 1, 0, none⟩ = some (.int .i64 (0)) := hf8.cell (i := 0) (by omega)
           have s1 : w8.cell? ⟨q + 1, 1, none⟩ = some (.int .i64 (0)) := hf8.cell (i := 1) (by omega)
           have g0 := hf8.frozen 0; have g1 := hf8.frozen 1
           have lr : LtW q w8 := hr8.lt
           have lf : LtW (q + 1) w8 := hf8.lt
           have HBF : Hid (Below q w w8) := Lib.hid (HBW.out.trans (hb8.mono (Nat.le_of_lt HRB.out.lt)))
           clear hb8 hr8 hf8 HRB HFB HBW
           go_wp2
           refine bodyPost_ret (v := .tuple #[.agg #[.int .i64 (0), .int .i64 (0), .slice none 0 0], .agg #[.int .i64 (2), .int .i64 ((N : Int))]]) (by simp [results, Tryd.results8, go_sem, r0, r1, r2, s0, s1]) rfl ?_
           unfold UnpPost
           rw [HU.out]
           refine ⟨rfl, ?_⟩
           rw [HQE.out]
           exact ((((HBF.out.setCell bnq _).setCell bnq _).setCell bnq _).setCell bnq _).setCell bnq _
          ·have t6 : decide ((N : Int) < (p : Int) + 1 + (LG : Int)) = false := by simp; omega
           have HU3 := Lib.hid (HU2.out.trans (if_neg hNL))
           clear HU2
           go_wp2_with fail
           obtain ⟨row, hrow⟩ : ∃ row, readRow W (fun j => B.getD (p + 1 + j) 0) = row := ⟨_, rfl⟩
           have HROW := Lib.hid hrow
           rw [hrow] at HU3
           have HRL : Hid (row.length = W) := Lib.hid (by rw [← hrow, readRow_len])
           have HLGW : Hid ((W + 7) / 8 = LG) := HLG
           obtain ⟨base2, hbase2⟩ : ∃ b, b = wo.heap.size := ⟨_, rfl⟩
           have HBS2 := Lib.hid hbase2
           have hb2 : base2 ≤ wo.heap.size := by omega
           clear hix t1 t2 t3 t4 t5 t6 hrow hbase2
           go_loopw [13, 126] (fun rv xv w2 => ∃ (k : Nat) (A : Option Addr) (cp : Nat), k ≤ W ∧ xv = .int .i64 k ∧ rv = .slice A k cp ∧ w2.ownsRow base2 4 1 (.slice A k cp) k ((row.take k).map Value.bool) ∧ Below base2 wo w2) (fun _ xv _ => W - (intOf xv).toNat)
           case atStart => exact ⟨0, none, 0, by omega, rfl, rfl, World.ownsRow_nil _ _ _ _, Below.refl _ _⟩
           case round =>
            obtain ⟨k, A, cp, hk, rfl, rfl, hown, hbel⟩ := hrel
            have HO := Lib.hid hown; have HB := Lib.hid hbel
            have hs2 := hbel.size
            clear hown hbel
            by_cases hkW : k < W
            ·obtain ⟨qk, hqk⟩ : ∃ qk, k / 8 = qk := ⟨_, rfl⟩
             obtain ⟨rk, hrk⟩ : ∃ rk, k % 8 = rk := ⟨_, rfl⟩
             have hk8 : rk < 8 := by rw [← hrk]; exact Nat.mod_lt _ (by omega)
             have hqL : qk < LG := by have := HLG.out; omega
             have d1 : IntKind.i64.wrap ((k : Int).tdiv 8) = (qk : Int) := by rw [IntWalk.i64_quo _ _ (by omega)]; omega
             have d2 : (k : Int).tdiv 8 = (qk : Int) := by rw [Int.tdiv_eq_ediv_of_nonneg (by omega)]; omega
             have d3 : (k : Int) / 8 = (qk : Int) := by omega
             have d9 : IntKind.i64.wrap (qk : Int) = (qk : Int) := IntWalk.i64_in _ (by omega)
             have d10 : IntKind.i64.wrap (rk : Int) = (rk : Int) := IntWalk.i64_in _ (by omega)
             have d11 : IntKind.i64.wrap ((p : Int) + 1) = (p : Int) + 1 := IntWalk.i64_in _ (by omega)
             have d12 : IntKind.i64.wrap ((p : Int) + 1 + (qk : Int)) = (p : Int) + 1 + (qk : Int) := IntWalk.i64_in _ (by omega)
             have d4 : (k : Int).tmod 8 = (rk : Int) := by rw [Int.tmod_eq_emod_of_nonneg (by omega)]; omega
             have d5 : (k : Int) % 8 = (rk : Int) := by omega
             have hix0 := HIX.out (p + 1 + qk) (by omega)
             obtain ⟨z, hz⟩ : ∃ z, B.getD (p + 1 + qk) 0 = z := ⟨_, rfl⟩
             have hz256 : z < 256 := by rw [← hz]; exact HLT.out _ (getD_memN (by rw [HN.out]; omega))
             rw [hz] at hix0
             have hix : ∀ w, (Instr.index 9 (.string s) (.int .i64 ((p : Int) + 1 + (qk : Int)))).run Tryd.prog w = .ok (.int .u8 (z : Nat)) w := hix0
             obtain ⟨pw, hpw⟩ : ∃ pw, 128 / 2 ^ rk = pw := ⟨_, rfl⟩
             have hpl : pw < 256 := by rw [← hpw]; exact Nat.lt_of_le_of_lt (Nat.div_le_self _ _) (by omega)
             have d6 : (128 : Int) / 2 ^ min rk 8 = (pw : Int) := by
              rw [Nat.min_eq_left (by omega), ← hpw]
              simp
             have d8 : (128 : Int) / 2 ^ rk = (pw : Int) := by rw [← hpw]; simp
             obtain ⟨nv, hnv⟩ : ∃ nv, z &&& pw = nv := ⟨_, rfl⟩
             have d7 : bits .and .u8 (z : Int) (pw : Int) = (nv : Int) := by rw [← hnv]; exact (bits_nat .u8 8 (by decide) wraps_u8 z _ hz256 hpl).1
             obtain ⟨bit, hbit⟩ : ∃ bit, bitAt z rk = bit := ⟨_, rfl⟩
             have d13 : (nv != 0) = bit := by rw [← hnv, ← hpw, ← hbit]; exact and_bit hz256 hk8
             have d14 : ((nv : Int) != 0) = bit := by rw [← d13]; exact int_ne_nat nv
             have HTK : Hid ((row.take (k + 1)).map Value.bool = (row.map Value.bool).take k ++ [Value.bool bit]) := Lib.hid (by
              rw [← List.map_take]
              rw [List.take_add_one, List.map_append, List.getElem?_eq_getElem (by rw [HRL.out]; exact hkW)]
              have e : row[k]'(by rw [HRL.out]; exact hkW) = bit := by
               have h1 : row.getD k false = bit := by rw [← HROW.out, readRow_get hkW, hqk, hrk, hz, hbit]
               rw [← h1]
               simp [List.getD, HRL.out, hkW]
              rw [e]
              rfl)
             clear hqk hrk hpw hnv hz hbit hix0
             go_wp2_with fail
             (refine wp_region_ext_build 13 _ mkOne (.cells #[.bool bit] 4) (by kernel_rfl) (by kernel_rfl) rfl rfl ?_; simp only [List.take_succ_cons, List.take_zero, List.drop_succ_cons, List.drop_zero]; (repeat (first | ((with_reducible refine wpV_step (fun K hK => ?_)); go_simp; first | (refine hK _ ?_; clear hK K) | (apply Exists.intro; refine ⟨fun _ _ => ?_, hK _ ?_⟩; fail; clear hK K)))); refine wpV_nil ?_; refine ⟨fun W => by go_simp; rfl, fun E d E' d' => ?_⟩)
             have hbE := built_below wr E d (.cells #[.bool bit] 4) E' d'
             have HCS := Lib.hid (built_cell wr E d #[.bool bit] 4 E' d')
             have HOE := Lib.hid (ownBelow HO.out hbE)
             have HBE := Lib.hid (HB.out.trans (hbE.mono (by omega)))
             have hsE := HBE.out.size
             clear hbE HO HB hix d1 d2 d3 d4 d5 d6 d7 d8 d9 d10 d11 d12 d13 d14
             generalize extW ((extW wr E d).alloc (.cells #[.bool bit] 4)) E' d' = WE at *
             generalize (extW wr E d).heap.size = BB at *
             go_wp2_with (at_builtin; refine wpAppB okBools rfl (.tmp 129) (.tmp 142) rfl base2 _ _ _ #[.bool bit] BB rfl HOE.out rfl HCS.out rfl ?_ (by omega) (by omega) (by omega) ?_)
             ·simp [Value.oneCell']
             intro v' w2 hown2 hb2
             obtain ⟨A', cp', rfl⟩ := own_form hown2
             have HO2 := Lib.hid hown2
             have HB2 := Lib.hid (HBE.out.trans hb2)
             clear hown2 hb2
             go_wp2
             go_roundw
             case rel => exact ⟨k + 1, A', cp', by omega, by go_num, rfl, by rw [HTK.out]; exact HO2.out, HB2.out⟩
             case measure => simp [intOf]; omega
            ·obtain rfl : W = k := by omega
             obtain ⟨a7, c7, e7, hI7⟩ := IsBools.of_owns (n := W) HRL.out (by have := HO.out; rwa [List.take_of_length_le (by rw [HRL.out]; exact Nat.le_refl _)] at this)
             injection e7 with e7 _ e8
             subst e7 e8
             have HI7 := Lib.hid hI7
             have hpl := punchL_len row
             rw [HRL.out, HLG.out] at hpl
             obtain ⟨PL, hPL⟩ : ∃ PL, punchL row = PL := ⟨_, rfl⟩
             have HPL := Lib.hid hPL
             rw [hPL] at hpl
             have HPLL := Lib.hid hpl
             obtain ⟨S2, hS2⟩ : ∃ S2, s.extract (p + 1) (p + 1 + LG) = S2 := ⟨_, rfl⟩
             have hsl : ∀ w, (Instr.slice 9 (.string s) (some (.int .i64 ((p : Int) + 1))) (some (.int .i64 ((p : Int) + 1 + (LG : Int)))) none).run Tryd.prog w = .ok (.string S2) w := fun w => by
              rw [← hS2]; exact slice_str s (p + 1) (p + 1 + LG) (by omega) (by rw [hN]; omega) w
             have HS2 : Hid (bytesOf S2 = (B.drop (p + 1)).take LG) := Lib.hid (by rw [← hS2, ← HBE.out]; exact bytesOf_extract s (p + 1) LG (by rw [hN]; omega))
             have HPLT : Hid (∀ x ∈ PL, x < 256) := Lib.hid (by rw [← hPL]; exact punchL_lt row)
             obtain ⟨S1, hS1⟩ : ∃ S1, strOf PL = S1 := ⟨_, rfl⟩
             have HS1 : Hid (bytesOf S1 = PL) := Lib.hid (by rw [← hS1, bytesOf_str HPLT.out])
             have HPU : Hid (∀ w, Below wr.heap.size wr w → Calls Tryd.prog 25 #[.slice A W cp] w (StrOfPost S1 w)) := Lib.hid (fun w hb => (punched_any A W cp row w (hI7.below hb) (by omega)).mono (by
              rw [hPL, ← hS1]
              exact strOfPost HPLT.out))
             have HSW := Lib.hid hN
             clear hI7 hPL hS1 hS2 hpl hN
             have q1 : IntKind.i64.wrap ((p : Int) + 1) = (p : Int) + 1 := IntWalk.i64_in _ (by omega)
             have q2 : IntKind.i64.wrap ((p : Int) + 1 + (LG : Int)) = (p : Int) + 1 + (LG : Int) := IntWalk.i64_in _ (by omega)
             by_cases hSS : S1 = S2
             ·subst hSS
              have HEQP : Hid (punchL row = (B.drop (p + 1)).take LG) := Lib.hid (by rw [HPL.out, ← HS1.out, HS2.out])
              by_cases hy0 : 0 < y
              ·have b3 : decide ((0 : Int) < (y : Int)) = true := by simp; omega
               have b4 : decide (0 < y) = true := by simp; omega
               have HIr := Lib.hid (HLAx.out.below (by have h1 := HB.out; rw [HBS2.out] at h1; exact h1 : Below wo.heap.size wo wr))
               have HEQ : Hid (∀ w, Below wr.heap.size wr w → Calls Tryd.prog 26 #[.slice A W cp, .slice la nl cl] w fun e w' => e = .returned (.bool (decide (row = last))) ∧ Below w.heap.size w w') := Lib.hid fun w hb =>
                Equal_any A W cp row la nl cl last w (HI7.out.below hb) (HIr.out.below hb) (by omega) (by omega)
               by_cases hrl : row = last
               ·rw [decide_eq_true hrl] at HEQ
                have HU : Hid (unp B = (.bad p, W, H)) := Lib.hid (by rw [HUN.out, HU3.out, if_pos (.inr ⟨hy0, hrl⟩)])
                clear hrl
                go_wp2_with fail
                refine wp_region_E (by kernel_rfl) ?_
                (refine wpE_take (i := 0) rfl (by kernel_rfl) (fun _ _ _ _ h => h) (fun K hK => ?_); go_simp; first | (refine hK _ ?_; clear hK K) | (apply Exists.intro; refine ⟨fun _ _ => ?_, hK _ ?_⟩; fail; clear hK K)); (refine wpE_take (i := 3) rfl (by kernel_rfl) (fun _ _ _ _ h => h) (fun K hK => ?_); go_simp; first | (refine hK _ ?_; clear hK K) | (apply Exists.intro; refine ⟨fun _ _ => ?_, hK _ ?_⟩; fail; clear hK K)); (refine wpE_take (i := 4) rfl (by kernel_rfl) (fun _ _ _ _ h => h) (fun K hK => ?_); go_simp; first | (refine hK _ ?_; clear hK K) | (apply Exists.intro; refine ⟨fun _ _ => ?_, hK _ ?_⟩; fail; clear hK K)); (refine wpE_take (i := 5) rfl (by kernel_rfl) (fun _ _ _ _ h => h) (fun K hK => ?_); go_simp; first | (refine hK _ ?_; clear hK K) | (apply Exists.intro; refine ⟨fun _ _ => ?_, hK _ ?_⟩; fail; clear hK K)); (refine wpE_take (i := 6) rfl (by kernel_rfl) (fun _ _ _ _ h => h) (fun K hK => ?_); go_simp; first | (refine hK _ ?_; clear hK K) | (apply Exists.intro; refine ⟨fun _ _ => ?_, hK _ ?_⟩; fail; clear hK K)); (refine wpE_take (i := 7) rfl (by kernel_rfl) (fun _ _ _ _ h => h) (fun K hK => ?_); go_simp; first | (refine hK _ ?_; clear hK K) | (apply Exists.intro; refine ⟨fun _ _ => ?_, hK _ ?_⟩; fail; clear hK K)); (refine wpE_take (i := 8) rfl (by kernel_rfl) (fun _ _ _ _ h => h) (fun K hK => ?_); go_simp; first | (refine hK _ ?_; clear hK K) | (apply Exists.intro; refine ⟨fun _ _ => ?_, hK _ ?_⟩; fail; clear hK K)); (refine wpE_take (i := 9) rfl (by kernel_rfl) (fun _ _ _ _ h => h) (fun K hK => ?_); go_simp; first | (refine hK _ ?_; clear hK K) | (apply Exists.intro; refine ⟨fun _ _ => ?_, hK _ ?_⟩; fail; clear hK K)); (refine wpE_take (i := 10) rfl (by kernel_rfl) (fun _ _ _ _ h => h) (fun K hK => ?_); go_simp; first | (refine hK _ ?_; clear hK K) | (apply Exists.intro; refine ⟨fun _ _ => ?_, hK _ ?_⟩; fail; clear hK K))
                (refine wpE_step (i := 1) rfl (by kernel_rfl) (fun E d K hK => ?_)); go_simp
                refine (HPU.out _ blw).mono ?_
                rintro r w4 ⟨g, n4, c4, rfl, hcv, hb4⟩
                refine hK _ _ (bExt hb4) ?_
                clear hK K
                (refine wpE_take (i := 2) rfl (by kernel_rfl) (fun _ _ _ _ h => h) (fun K hK => ?_); go_simp; first | (refine hK _ ?_; clear hK K) | (apply Exists.intro; refine ⟨fun _ _ => ?_, hK _ ?_⟩; fail; clear hK K)); (refine wpE_take (i := 11) rfl (by kernel_rfl) (fun _ _ _ _ h => h) (fun K hK => ?_); go_simp; first | (refine hK _ ?_; clear hK K) | (apply Exists.intro; refine ⟨fun _ _ => ?_, hK _ ?_⟩; fail; clear hK K)); (refine wpE_take (i := 12) rfl (by kernel_rfl) (fun _ _ _ _ h => h) (fun K hK => ?_); go_simp; first | (refine hK _ ?_; clear hK K) | (apply Exists.intro; refine ⟨fun _ _ => ?_, hK _ ?_⟩; fail; clear hK K)); (refine wpE_take (i := 13) rfl (by kernel_rfl) (fun _ _ _ _ h => h) (fun K hK => ?_); go_simp; first | (refine hK _ ?_; clear hK K) | (apply Exists.intro; refine ⟨fun _ _ => ?_, hK _ ?_⟩; fail; clear hK K)); (refine wpE_take (i := 14) rfl (by kernel_rfl) (fun _ _ _ _ h => h) (fun K hK => ?_); go_simp; first | (refine hK _ ?_; clear hK K) | (apply Exists.intro; refine ⟨fun _ _ => ?_, hK _ ?_⟩; fail; clear hK K)); (refine wpE_take (i := 15) rfl (by kernel_rfl) (fun _ _ _ _ h => h) (fun K hK => ?_); go_simp; first | (refine hK _ ?_; clear hK K) | (apply Exists.intro; refine ⟨fun _ _ => ?_, hK _ ?_⟩; fail; clear hK K)); (refine wpE_take (i := 16) rfl (by kernel_rfl) (fun _ _ _ _ h => h) (fun K hK => ?_); go_simp; first | (refine hK _ ?_; clear hK K) | (apply Exists.intro; refine ⟨fun _ _ => ?_, hK _ ?_⟩; fail; clear hK K)); (refine wpE_take (i := 17) rfl (by kernel_rfl) (fun _ _ _ _ h => h) (fun K hK => ?_); go_simp; first | (refine hK _ ?_; clear hK K) | (apply Exists.intro; refine ⟨fun _ _ => ?_, hK _ ?_⟩; fail; clear hK K))
                (refine wpE_take (i := 18) rfl (by kernel_rfl) (fun _ _ _ _ h => h) (fun K hK => ?_); go_simp; first | (refine hK _ ?_; clear hK K) | (apply Exists.intro; refine ⟨fun _ _ => ?_, hK _ ?_⟩; (go_at_call 26; exact vOf (HEQ.out _ (belowX4 hb4))); clear hK K))
                (refine wpE_take (i := 19) rfl (by kernel_rfl) (fun _ _ _ _ h => h) (fun K hK => ?_); go_simp; first | (refine hK _ ?_; clear hK K) | (apply Exists.intro; refine ⟨fun _ _ => ?_, hK _ ?_⟩; fail; clear hK K)); (refine wpE_take (i := 20) rfl (by kernel_rfl) (fun _ _ _ _ h => h) (fun K hK => ?_); go_simp; first | (refine hK _ ?_; clear hK K) | (apply Exists.intro; refine ⟨fun _ _ => ?_, hK _ ?_⟩; fail; clear hK K))
                refine wpE_done (by kernel_rfl) (fun E d => ?_)
                have hbr := belowX4 (F := E) (e := d) hb4
                have hb9 : Below wo.heap.size wo (extW w4 E d) := by
                 have h1 := HB.out
                 rw [HBS2.out] at h1
                 exact h1.trans (hbr.mono h1.size)
                exact lfCd35
               ·rw [decide_eq_false hrl] at HEQ
                have HNX : Hid (unF B W H f (y + x) (p + 1 + LG) row (acc ++ (List.replicate x row).flatten) = RES) := Lib.hid (HU3.out.trans (if_neg (by rintro (e | e); exact e HEQP.out; exact hrl e.2))).symm
                clear hrl
                go_wp2_with fail
                refine wp_region_E (by kernel_rfl) ?_
                (refine wpE_take (i := 0) rfl (by kernel_rfl) (fun _ _ _ _ h => h) (fun K hK => ?_); go_simp; first | (refine hK _ ?_; clear hK K) | (apply Exists.intro; refine ⟨fun _ _ => ?_, hK _ ?_⟩; fail; clear hK K)); (refine wpE_take (i := 3) rfl (by kernel_rfl) (fun _ _ _ _ h => h) (fun K hK => ?_); go_simp; first | (refine hK _ ?_; clear hK K) | (apply Exists.intro; refine ⟨fun _ _ => ?_, hK _ ?_⟩; fail; clear hK K)); (refine wpE_take (i := 4) rfl (by kernel_rfl) (fun _ _ _ _ h => h) (fun K hK => ?_); go_simp; first | (refine hK _ ?_; clear hK K) | (apply Exists.intro; refine ⟨fun _ _ => ?_, hK _ ?_⟩; fail; clear hK K)); (refine wpE_take (i := 5) rfl (by kernel_rfl) (fun _ _ _ _ h => h) (fun K hK => ?_); go_simp; first | (refine hK _ ?_; clear hK K) | (apply Exists.intro; refine ⟨fun _ _ => ?_, hK _ ?_⟩; fail; clear hK K)); (refine wpE_take (i := 6) rfl (by kernel_rfl) (fun _ _ _ _ h => h) (fun K hK => ?_); go_simp; first | (refine hK _ ?_; clear hK K) | (apply Exists.intro; refine ⟨fun _ _ => ?_, hK _ ?_⟩; fail; clear hK K)); (refine wpE_take (i := 7) rfl (by kernel_rfl) (fun _ _ _ _ h => h) (fun K hK => ?_); go_simp; first | (refine hK _ ?_; clear hK K) | (apply Exists.intro; refine ⟨fun _ _ => ?_, hK _ ?_⟩; fail; clear hK K)); (refine wpE_take (i := 8) rfl (by kernel_rfl) (fun _ _ _ _ h => h) (fun K hK => ?_); go_simp; first | (refine hK _ ?_; clear hK K) | (apply Exists.intro; refine ⟨fun _ _ => ?_, hK _ ?_⟩; fail; clear hK K)); (refine wpE_take (i := 9) rfl (by kernel_rfl) (fun _ _ _ _ h => h) (fun K hK => ?_); go_simp; first | (refine hK _ ?_; clear hK K) | (apply Exists.intro; refine ⟨fun _ _ => ?_, hK _ ?_⟩; fail; clear hK K)); (refine wpE_take (i := 10) rfl (by kernel_rfl) (fun _ _ _ _ h => h) (fun K hK => ?_); go_simp; first | (refine hK _ ?_; clear hK K) | (apply Exists.intro; refine ⟨fun _ _ => ?_, hK _ ?_⟩; fail; clear hK K))
                (refine wpE_step (i := 1) rfl (by kernel_rfl) (fun E d K hK => ?_)); go_simp
                refine (HPU.out _ blw).mono ?_
                rintro r w4 ⟨g, n4, c4, rfl, hcv, hb4⟩
                refine hK _ _ (bExt hb4) ?_
                clear hK K
                (refine wpE_take (i := 2) rfl (by kernel_rfl) (fun _ _ _ _ h => h) (fun K hK => ?_); go_simp; first | (refine hK _ ?_; clear hK K) | (apply Exists.intro; refine ⟨fun _ _ => ?_, hK _ ?_⟩; fail; clear hK K)); (refine wpE_take (i := 11) rfl (by kernel_rfl) (fun _ _ _ _ h => h) (fun K hK => ?_); go_simp; first | (refine hK _ ?_; clear hK K) | (apply Exists.intro; refine ⟨fun _ _ => ?_, hK _ ?_⟩; fail; clear hK K)); (refine wpE_take (i := 12) rfl (by kernel_rfl) (fun _ _ _ _ h => h) (fun K hK => ?_); go_simp; first | (refine hK _ ?_; clear hK K) | (apply Exists.intro; refine ⟨fun _ _ => ?_, hK _ ?_⟩; fail; clear hK K)); (refine wpE_take (i := 13) rfl (by kernel_rfl) (fun _ _ _ _ h => h) (fun K hK => ?_); go_simp; first | (refine hK _ ?_; clear hK K) | (apply Exists.intro; refine ⟨fun _ _ => ?_, hK _ ?_⟩; fail; clear hK K)); (refine wpE_take (i := 14) rfl (by kernel_rfl) (fun _ _ _ _ h => h) (fun K hK => ?_); go_simp; first | (refine hK _ ?_; clear hK K) | (apply Exists.intro; refine ⟨fun _ _ => ?_, hK _ ?_⟩; fail; clear hK K)); (refine wpE_take (i := 15) rfl (by kernel_rfl) (fun _ _ _ _ h => h) (fun K hK => ?_); go_simp; first | (refine hK _ ?_; clear hK K) | (apply Exists.intro; refine ⟨fun _ _ => ?_, hK _ ?_⟩; fail; clear hK K)); (refine wpE_take (i := 16) rfl (by kernel_rfl) (fun _ _ _ _ h => h) (fun K hK => ?_); go_simp; first | (refine hK _ ?_; clear hK K) | (apply Exists.intro; refine ⟨fun _ _ => ?_, hK _ ?_⟩; fail; clear hK K)); (refine wpE_take (i := 17) rfl (by kernel_rfl) (fun _ _ _ _ h => h) (fun K hK => ?_); go_simp; first | (refine hK _ ?_; clear hK K) | (apply Exists.intro; refine ⟨fun _ _ => ?_, hK _ ?_⟩; fail; clear hK K))
                (refine wpE_take (i := 18) rfl (by kernel_rfl) (fun _ _ _ _ h => h) (fun K hK => ?_); go_simp; first | (refine hK _ ?_; clear hK K) | (apply Exists.intro; refine ⟨fun _ _ => ?_, hK _ ?_⟩; (go_at_call 26; exact vOf (HEQ.out _ (belowX4 hb4))); clear hK K))
                (refine wpE_take (i := 19) rfl (by kernel_rfl) (fun _ _ _ _ h => h) (fun K hK => ?_); go_simp; first | (refine hK _ ?_; clear hK K) | (apply Exists.intro; refine ⟨fun _ _ => ?_, hK _ ?_⟩; fail; clear hK K)); (refine wpE_take (i := 20) rfl (by kernel_rfl) (fun _ _ _ _ h => h) (fun K hK => ?_); go_simp; first | (refine hK _ ?_; clear hK K) | (apply Exists.intro; refine ⟨fun _ _ => ?_, hK _ ?_⟩; fail; clear hK K))
                refine wpE_done (by kernel_rfl) (fun E d => ?_)
                exact lfCd31
              ·have b3 : decide ((0 : Int) < (y : Int)) = false := by simp; omega
               have b4 : decide (0 < y) = false := by simp; omega
               have HNX : Hid (unF B W H f (y + x) (p + 1 + LG) row (acc ++ (List.replicate x row).flatten) = RES) := Lib.hid (HU3.out.trans (if_neg (by rintro (e | e); exact e HEQP.out; exact hy0 e.1))).symm
               go_wp2_with fail
               refine wp_region_E (by kernel_rfl) ?_
               (refine wpE_take (i := 0) rfl (by kernel_rfl) (fun _ _ _ _ h => h) (fun K hK => ?_); go_simp; first | (refine hK _ ?_; clear hK K) | (apply Exists.intro; refine ⟨fun _ _ => ?_, hK _ ?_⟩; fail; clear hK K)); (refine wpE_take (i := 3) rfl (by kernel_rfl) (fun _ _ _ _ h => h) (fun K hK => ?_); go_simp; first | (refine hK _ ?_; clear hK K) | (apply Exists.intro; refine ⟨fun _ _ => ?_, hK _ ?_⟩; fail; clear hK K)); (refine wpE_take (i := 4) rfl (by kernel_rfl) (fun _ _ _ _ h => h) (fun K hK => ?_); go_simp; first | (refine hK _ ?_; clear hK K) | (apply Exists.intro; refine ⟨fun _ _ => ?_, hK _ ?_⟩; fail; clear hK K)); (refine wpE_take (i := 5) rfl (by kernel_rfl) (fun _ _ _ _ h => h) (fun K hK => ?_); go_simp; first | (refine hK _ ?_; clear hK K) | (apply Exists.intro; refine ⟨fun _ _ => ?_, hK _ ?_⟩; fail; clear hK K)); (refine wpE_take (i := 6) rfl (by kernel_rfl) (fun _ _ _ _ h => h) (fun K hK => ?_); go_simp; first | (refine hK _ ?_; clear hK K) | (apply Exists.intro; refine ⟨fun _ _ => ?_, hK _ ?_⟩; fail; clear hK K)); (refine wpE_take (i := 7) rfl (by kernel_rfl) (fun _ _ _ _ h => h) (fun K hK => ?_); go_simp; first | (refine hK _ ?_; clear hK K) | (apply Exists.intro; refine ⟨fun _ _ => ?_, hK _ ?_⟩; fail; clear hK K)); (refine wpE_take (i := 8) rfl (by kernel_rfl) (fun _ _ _ _ h => h) (fun K hK => ?_); go_simp; first | (refine hK _ ?_; clear hK K) | (apply Exists.intro; refine ⟨fun _ _ => ?_, hK _ ?_⟩; fail; clear hK K)); (refine wpE_take (i := 9) rfl (by kernel_rfl) (fun _ _ _ _ h => h) (fun K hK => ?_); go_simp; first | (refine hK _ ?_; clear hK K) | (apply Exists.intro; refine ⟨fun _ _ => ?_, hK _ ?_⟩; fail; clear hK K)); (refine wpE_take (i := 10) rfl (by kernel_rfl) (fun _ _ _ _ h => h) (fun K hK => ?_); go_simp; first | (refine hK _ ?_; clear hK K) | (apply Exists.intro; refine ⟨fun _ _ => ?_, hK _ ?_⟩; fail; clear hK K))
               (refine wpE_step (i := 1) rfl (by kernel_rfl) (fun E d K hK => ?_)); go_simp
               refine (HPU.out _ blw).mono ?_
               rintro r w4 ⟨g, n4, c4, rfl, hcv, hb4⟩
               refine hK _ _ (bExt hb4) ?_
               clear hK K
               (refine wpE_take (i := 2) rfl (by kernel_rfl) (fun _ _ _ _ h => h) (fun K hK => ?_); go_simp; first | (refine hK _ ?_; clear hK K) | (apply Exists.intro; refine ⟨fun _ _ => ?_, hK _ ?_⟩; fail; clear hK K)); (refine wpE_take (i := 11) rfl (by kernel_rfl) (fun _ _ _ _ h => h) (fun K hK => ?_); go_simp; first | (refine hK _ ?_; clear hK K) | (apply Exists.intro; refine ⟨fun _ _ => ?_, hK _ ?_⟩; fail; clear hK K)); (refine wpE_take (i := 12) rfl (by kernel_rfl) (fun _ _ _ _ h => h) (fun K hK => ?_); go_simp; first | (refine hK _ ?_; clear hK K) | (apply Exists.intro; refine ⟨fun _ _ => ?_, hK _ ?_⟩; fail; clear hK K)); (refine wpE_take (i := 13) rfl (by kernel_rfl) (fun _ _ _ _ h => h) (fun K hK => ?_); go_simp; first | (refine hK _ ?_; clear hK K) | (apply Exists.intro; refine ⟨fun _ _ => ?_, hK _ ?_⟩; fail; clear hK K)); (refine wpE_take (i := 14) rfl (by kernel_rfl) (fun _ _ _ _ h => h) (fun K hK => ?_); go_simp; first | (refine hK _ ?_; clear hK K) | (apply Exists.intro; refine ⟨fun _ _ => ?_, hK _ ?_⟩; fail; clear hK K)); (refine wpE_take (i := 15) rfl (by kernel_rfl) (fun _ _ _ _ h => h) (fun K hK => ?_); go_simp; first | (refine hK _ ?_; clear hK K) | (apply Exists.intro; refine ⟨fun _ _ => ?_, hK _ ?_⟩; fail; clear hK K)); (refine wpE_take (i := 16) rfl (by kernel_rfl) (fun _ _ _ _ h => h) (fun K hK => ?_); go_simp; first | (refine hK _ ?_; clear hK K) | (apply Exists.intro; refine ⟨fun _ _ => ?_, hK _ ?_⟩; fail; clear hK K)); (refine wpE_take (i := 17) rfl (by kernel_rfl) (fun _ _ _ _ h => h) (fun K hK => ?_); go_simp; first | (refine hK _ ?_; clear hK K) | (apply Exists.intro; refine ⟨fun _ _ => ?_, hK _ ?_⟩; fail; clear hK K)); (refine wpE_take (i := 18) rfl (by kernel_rfl) (fun _ _ _ _ h => h) (fun K hK => ?_); go_simp; first | (refine hK _ ?_; clear hK K) | (apply Exists.intro; refine ⟨fun _ _ => ?_, hK _ ?_⟩; fail; clear hK K)); (refine wpE_take (i := 19) rfl (by kernel_rfl) (fun _ _ _ _ h => h) (fun K hK => ?_); go_simp; first | (refine hK _ ?_; clear hK K) | (apply Exists.intro; refine ⟨fun _ _ => ?_, hK _ ?_⟩; fail; clear hK K)); (refine wpE_take (i := 20) rfl (by kernel_rfl) (fun _ _ _ _ h => h) (fun K hK => ?_); go_simp; first | (refine hK _ ?_; clear hK K) | (apply Exists.intro; refine ⟨fun _ _ => ?_, hK _ ?_⟩; fail; clear hK K))
               refine wpE_done (by kernel_rfl) (fun E d => ?_)
               exact lfCd31
             ·have b1 : (S1.toList == S2.toList) = false := str_ne hSS
              go_wp2_with fail
              refine wp_region_E (by kernel_rfl) ?_
              (refine wpE_take (i := 0) rfl (by kernel_rfl) (fun _ _ _ _ h => h) (fun K hK => ?_); go_simp; first | (refine hK _ ?_; clear hK K) | (apply Exists.intro; refine ⟨fun _ _ => ?_, hK _ ?_⟩; fail; clear hK K)); (refine wpE_take (i := 3) rfl (by kernel_rfl) (fun _ _ _ _ h => h) (fun K hK => ?_); go_simp; first | (refine hK _ ?_; clear hK K) | (apply Exists.intro; refine ⟨fun _ _ => ?_, hK _ ?_⟩; fail; clear hK K)); (refine wpE_take (i := 4) rfl (by kernel_rfl) (fun _ _ _ _ h => h) (fun K hK => ?_); go_simp; first | (refine hK _ ?_; clear hK K) | (apply Exists.intro; refine ⟨fun _ _ => ?_, hK _ ?_⟩; fail; clear hK K)); (refine wpE_take (i := 5) rfl (by kernel_rfl) (fun _ _ _ _ h => h) (fun K hK => ?_); go_simp; first | (refine hK _ ?_; clear hK K) | (apply Exists.intro; refine ⟨fun _ _ => ?_, hK _ ?_⟩; fail; clear hK K)); (refine wpE_take (i := 6) rfl (by kernel_rfl) (fun _ _ _ _ h => h) (fun K hK => ?_); go_simp; first | (refine hK _ ?_; clear hK K) | (apply Exists.intro; refine ⟨fun _ _ => ?_, hK _ ?_⟩; fail; clear hK K)); (refine wpE_take (i := 7) rfl (by kernel_rfl) (fun _ _ _ _ h => h) (fun K hK => ?_); go_simp; first | (refine hK _ ?_; clear hK K) | (apply Exists.intro; refine ⟨fun _ _ => ?_, hK _ ?_⟩; fail; clear hK K)); (refine wpE_take (i := 8) rfl (by kernel_rfl) (fun _ _ _ _ h => h) (fun K hK => ?_); go_simp; first | (refine hK _ ?_; clear hK K) | (apply Exists.intro; refine ⟨fun _ _ => ?_, hK _ ?_⟩; fail; clear hK K)); (refine wpE_take (i := 9) rfl (by kernel_rfl) (fun _ _ _ _ h => h) (fun K hK => ?_); go_simp; first | (refine hK _ ?_; clear hK K) | (apply Exists.intro; refine ⟨fun _ _ => ?_, hK _ ?_⟩; fail; clear hK K)); (refine wpE_take (i := 10) rfl (by kernel_rfl) (fun _ _ _ _ h => h) (fun K hK => ?_); go_simp; first | (refine hK _ ?_; clear hK K) | (apply Exists.intro; refine ⟨fun _ _ => ?_, hK _ ?_⟩; fail; clear hK K))
              (refine wpE_step (i := 1) rfl (by kernel_rfl) (fun E d K hK => ?_)); go_simp
              refine (HPU.out _ blw).mono ?_
              rintro r w4 ⟨g, n4, c4, rfl, hcv, hb4⟩
              refine hK _ _ (bExt hb4) ?_
              clear hK K
              (refine wpE_take (i := 2) rfl (by kernel_rfl) (fun _ _ _ _ h => h) (fun K hK => ?_); go_simp; first | (refine hK _ ?_; clear hK K) | (apply Exists.intro; refine ⟨fun _ _ => ?_, hK _ ?_⟩; fail; clear hK K)); (refine wpE_take (i := 11) rfl (by kernel_rfl) (fun _ _ _ _ h => h) (fun K hK => ?_); go_simp; first | (refine hK _ ?_; clear hK K) | (apply Exists.intro; refine ⟨fun _ _ => ?_, hK _ ?_⟩; fail; clear hK K)); (refine wpE_take (i := 12) rfl (by kernel_rfl) (fun _ _ _ _ h => h) (fun K hK => ?_); go_simp; first | (refine hK _ ?_; clear hK K) | (apply Exists.intro; refine ⟨fun _ _ => ?_, hK _ ?_⟩; fail; clear hK K)); (refine wpE_take (i := 13) rfl (by kernel_rfl) (fun _ _ _ _ h => h) (fun K hK => ?_); go_simp; first | (refine hK _ ?_; clear hK K) | (apply Exists.intro; refine ⟨fun _ _ => ?_, hK _ ?_⟩; fail; clear hK K)); (refine wpE_take (i := 14) rfl (by kernel_rfl) (fun _ _ _ _ h => h) (fun K hK => ?_); go_simp; first | (refine hK _ ?_; clear hK K) | (apply Exists.intro; refine ⟨fun _ _ => ?_, hK _ ?_⟩; fail; clear hK K)); (refine wpE_take (i := 15) rfl (by kernel_rfl) (fun _ _ _ _ h => h) (fun K hK => ?_); go_simp; first | (refine hK _ ?_; clear hK K) | (apply Exists.intro; refine ⟨fun _ _ => ?_, hK _ ?_⟩; fail; clear hK K)); (refine wpE_take (i := 16) rfl (by kernel_rfl) (fun _ _ _ _ h => h) (fun K hK => ?_); go_simp; first | (refine hK _ ?_; clear hK K) | (apply Exists.intro; refine ⟨fun _ _ => ?_, hK _ ?_⟩; fail; clear hK K)); (refine wpE_take (i := 17) rfl (by kernel_rfl) (fun _ _ _ _ h => h) (fun K hK => ?_); go_simp; first | (refine hK _ ?_; clear hK K) | (apply Exists.intro; refine ⟨fun _ _ => ?_, hK _ ?_⟩; fail; clear hK K)); (refine wpE_take (i := 18) rfl (by kernel_rfl) (fun _ _ _ _ h => h) (fun K hK => ?_); go_simp; first | (refine hK _ ?_; clear hK K) | (apply Exists.intro; refine ⟨fun _ _ => ?_, hK _ ?_⟩; fail; clear hK K)); (refine wpE_take (i := 19) rfl (by kernel_rfl) (fun _ _ _ _ h => h) (fun K hK => ?_); go_simp; first | (refine hK _ ?_; clear hK K) | (apply Exists.intro; refine ⟨fun _ _ => ?_, hK _ ?_⟩; fail; clear hK K)); (refine wpE_take (i := 20) rfl (by kernel_rfl) (fun _ _ _ _ h => h) (fun K hK => ?_); go_simp; first | (refine hK _ ?_; clear hK K) | (apply Exists.intro; refine ⟨fun _ _ => ?_, hK _ ?_⟩; fail; clear hK K))
              refine wpE_done (by kernel_rfl) (fun E d => ?_)
              have HU : Hid (unp B = (.bad p, W, H)) := Lib.hid (by
               rw [HUN.out, HU3.out, if_pos (.inl fun e => hSS (by
                apply bytesOf_inj; rw [HS1.out, HS2.out, ← HPL.out]; exact e))])
              have hb9 : Below wo.heap.size wo (extW w4 E d) := by
               have h1 := HB.out
               rw [HBS2.out] at h1
               have h2 := h1.size
               exact h1.trans ((belowX4 hb4).mono h2)
              exact lfCd35
      ·obtain rfl : H = y := by omega
       have hRES : RES = if p = N ∨ B.getD p 0 ≠ chk (B.take p) then .bad p else if p + 1 < N then .bad (p + 1) else .ok acc := by
        rw [← hres.out]
        unfold unF
        rw [if_neg hyH, HN.out]
       have HRS := Lib.hid hRES
       clear hRES hres
       by_cases he : p = N
       ·have t1 : ((p : Int) == (N : Int)) = true := by simp; omega
        have t2 : (p == N) = true := by simp; omega
        have HU : Hid (unp B = (.bad p, W, H)) := Lib.hid (by rw [HUN.out, HRS.out, if_pos (.inl he)])
        clear he HFB HLA
        exact lfCd37
       ·have t1 : ((p : Int) == (N : Int)) = false := by simp; omega
        have t2 : (p == N) = false := by simp; omega
        have hix := HIX.out p (by omega)
        obtain ⟨x, hx⟩ : ∃ x, B.getD p 0 = x := ⟨_, rfl⟩
        have hx256 : x < 256 := by rw [← hx]; exact HLT.out _ (getD_memN (by rw [HN.out]; omega))
        rw [hx] at hix HRS
        obtain ⟨S2, hS2⟩ : ∃ S2, s.extract 0 p = S2 := ⟨_, rfl⟩
        have hsl : ∀ w, (Instr.slice 9 (.string s) none (some (.int .i64 (p : Int))) none).run Tryd.prog w = .ok (.string S2) w := fun w => by
         rw [← hS2]; exact slice_to s p (by rw [hN]; omega) w
        have HS2 : Hid (bytesOf S2 = B.take p) := Lib.hid (by
         have h1 := bytesOf_extract s 0 p (by rw [hN]; omega)
         rw [Nat.zero_add, List.drop_zero, HBE.out] at h1
         rw [← hS2, h1])
        have hSz : S2.size = p := by
         have h1 := congrArg List.length HS2.out
         rw [bytesOf_len, List.length_take, HN.out] at h1
         omega
        have HLTP : Hid (∀ x ∈ B.take p, x < 256) := Lib.hid fun x hx => HLT.out x (List.mem_of_mem_take hx)
        obtain ⟨capF, bwF, hcb, hcp⟩ := strBytes S2
        rw [HS2.out, hSz] at hcp
        rw [hSz] at hcb
        have HCB := Lib.hid hcp
        obtain ⟨sm, hsm⟩ : ∃ sm, (B.take p).sum % 256 = sm := ⟨_, rfl⟩
        have hsl2 : sm < 256 := by omega
        obtain ⟨ck, hck⟩ : ∃ ck, chk (B.take p) = ck := ⟨_, rfl⟩
        have hcl : ck < 256 := by rw [← hck]; exact chk_lt _
        have v1 : IntKind.u8.wrap (-(sm : Int)) = (ck : Int) := by rw [IntKind.wrap_u8, ← hck]; unfold chk; rw [hsm]; omega
        have v2 : (-(sm : Int)) % 256 = (ck : Int) := by rw [← hck]; unfold chk; rw [hsm]; omega
        have HSM := Lib.hid hsm
        rw [hck] at HRS
        have HNE := Lib.hid he
        clear hS2 hSz hcp hsm hck hx he
        go_wp2_with fail
        refine wp_region_E (by kernel_rfl) ?_
        (refine wpE_take (i := 0) rfl (by kernel_rfl) (fun _ _ _ _ h => h) (fun K hK => ?_); go_simp; first | (refine hK _ ?_; clear hK K) | (apply Exists.intro; refine ⟨fun _ _ => ?_, hK _ ?_⟩; fail; clear hK K)); (refine wpE_take (i := 1) rfl (by kernel_rfl) (fun _ _ _ _ h => h) (fun K hK => ?_); go_simp; first | (refine hK _ ?_; clear hK K) | (apply Exists.intro; refine ⟨fun _ _ => ?_, hK _ ?_⟩; fail; clear hK K)); (refine wpE_take (i := 2) rfl (by kernel_rfl) (fun _ _ _ _ h => h) (fun K hK => ?_); go_simp; first | (refine hK _ ?_; clear hK K) | (apply Exists.intro; refine ⟨fun _ _ => ?_, hK _ ?_⟩; fail; clear hK K)); (refine wpE_take (i := 3) rfl (by kernel_rfl) (fun _ _ _ _ h => h) (fun K hK => ?_); go_simp; first | (refine hK _ ?_; clear hK K) | (apply Exists.intro; refine ⟨fun _ _ => ?_, hK _ ?_⟩; fail; clear hK K)); (refine wpE_take (i := 4) rfl (by kernel_rfl) (fun _ _ _ _ h => h) (fun K hK => ?_); go_simp; first | (refine hK _ ?_; clear hK K) | (apply Exists.intro; refine ⟨fun _ _ => ?_, hK _ ?_⟩; fail; clear hK K)); (refine wpE_take (i := 5) rfl (by kernel_rfl) (fun _ _ _ _ h => h) (fun K hK => ?_); go_simp; first | (refine hK _ ?_; clear hK K) | (apply Exists.intro; refine ⟨fun _ _ => ?_, hK _ ?_⟩; fail; clear hK K)); (refine wpE_take (i := 6) rfl (by kernel_rfl) (fun _ _ _ _ h => h) (fun K hK => ?_); go_simp; first | (refine hK _ ?_; clear hK K) | (apply Exists.intro; refine ⟨fun _ _ => ?_, hK _ ?_⟩; fail; clear hK K)); (refine wpE_take (i := 7) rfl (by kernel_rfl) (fun _ _ _ _ h => h) (fun K hK => ?_); go_simp; first | (refine hK _ ?_; clear hK K) | (apply Exists.intro; refine ⟨fun _ _ => ?_, hK _ ?_⟩; fail; clear hK K)); (refine wpE_take (i := 8) rfl (by kernel_rfl) (fun _ _ _ _ h => h) (fun K hK => ?_); go_simp; first | (refine hK _ ?_; clear hK K) | (apply Exists.intro; refine ⟨fun _ _ => ?_, hK _ ?_⟩; fail; clear hK K)); (refine wpE_take (i := 9) rfl (by kernel_rfl) (fun _ _ _ _ h => h) (fun K hK => ?_); go_simp; first | (refine hK _ ?_; clear hK K) | (apply Exists.intro; refine ⟨fun _ _ => ?_, hK _ ?_⟩; fail; clear hK K)); (refine wpE_take (i := 10) rfl (by kernel_rfl) (fun _ _ _ _ h => h) (fun K hK => ?_); go_simp; first | (refine hK _ ?_; clear hK K) | (apply Exists.intro; refine ⟨fun _ _ => ?_, hK _ ?_⟩; fail; clear hK K))
        (refine wpE_step (i := 11) rfl (by kernel_rfl) (fun E d K hK => ?_)); go_simp
        refine hK _ _ (bExt (HCB.out _).1) ?_
        clear hK K
        obtain ⟨hbz, hIz⟩ := HCB.out (extW wr E d)
        have hbz2 : Below wr.heap.size wr (bwF (extW wr E d)) := Below.trans (bExtW (Below.refl _ _) (Nat.le_refl _)) (hbz.mono (by simp))
        generalize capF (extW wr E d) = cz at *
        generalize bwF (extW wr E d) = wz at *
        rw [show (extW wr E d).heap.size = wr.heap.size + E.size by simp] at hIz hbz
        generalize wr.heap.size + E.size = gz at *
        (refine wpE_take (i := 12) rfl (by kernel_rfl) (fun _ _ _ _ h => h) (fun K hK => ?_); go_simp; first | (refine hK _ ?_; clear hK K) | (apply Exists.intro; refine ⟨fun _ _ => ?_, hK _ ?_⟩; (go_at_call 27; exact vOf (sum_any _ _ _ _ _ (hIz.below (bExtW (Below.refl _ _) (Nat.le_refl _))) (by omega) HLTP.out)); clear hK K))
        rw [HSM.out]
        by_cases hxc : x = ck
        ·have t3 : ((x : Int) != (ck : Int)) = false := by simp; omega
         have t4 : (x != ck) = false := by simp; omega
         have HRS2 : Hid (RES = if p + 1 < N then .bad (p + 1) else .ok acc) := Lib.hid (by rw [HRS.out, if_neg (by rintro (e | e); exact HNE.out e; exact e hxc)])
         clear hxc HRS
         (refine wpE_take (i := 13) rfl (by kernel_rfl) (fun _ _ _ _ h => h) (fun K hK => ?_); go_simp; first | (refine hK _ ?_; clear hK K) | (apply Exists.intro; refine ⟨fun _ _ => ?_, hK _ ?_⟩; fail; clear hK K)); (refine wpE_take (i := 14) rfl (by kernel_rfl) (fun _ _ _ _ h => h) (fun K hK => ?_); go_simp; first | (refine hK _ ?_; clear hK K) | (apply Exists.intro; refine ⟨fun _ _ => ?_, hK _ ?_⟩; fail; clear hK K)); (refine wpE_take (i := 15) rfl (by kernel_rfl) (fun _ _ _ _ h => h) (fun K hK => ?_); go_simp; first | (refine hK _ ?_; clear hK K) | (apply Exists.intro; refine ⟨fun _ _ => ?_, hK _ ?_⟩; fail; clear hK K))
         refine wpE_done (by kernel_rfl) (fun E d => ?_)
         have hb9 : Below wr.heap.size wr (extW wz E d) := bExtW hbz2 hbz2.size
         have HTB := Lib.hid (HFB.out.grow hb9 hmbb)
         clear HFB HLA hcb HCB hsl hix hbz hIz hbz2 m0 m1 lm
         have HRB := Lib.hid (rowBelow HRw.out hb9 HRw.out.lt)
         have HFB := Lib.hid (rowBelow HFw.out hb9 HFw.out.lt)
         have HBW : Hid (Below q w (extW wz E d)) := Lib.hid (HBw.out.trans (hb9.mono (by omega)))
         clear hb9
         generalize extW wz E d = wx at *
         by_cases hpN : p + 1 < N
         ·have t5 : decide ((p : Int) + 1 < (N : Int)) = true := by simp; omega
          have t6 : decide (p + 1 < N) = true := by simp; omega
          have HU : Hid (unp B = (.bad (p + 1), W, H)) := Lib.hid (by rw [HUN.out, HRS2.out, if_pos hpN])
          clear HTB
          go_wp2_with fail
          refine (cbad_any ((p : Int) + 1) _).mono ?_
          rintro r w8 ⟨rfl, hb8⟩
          have hb8 : Below wx.heap.size wx w8 := Below.trans blw (hb8.mono bnd)
          have hr8 := rowBelow HRB.out hb8 HRB.out.lt
          have hf8 := rowBelow HFB.out hb8 HFB.out.lt
          have r0 : w8.cell? ⟨q, 0, none⟩ = some (.int .i64 (0)) := hr8.cell (i := 0) (by omega)
          have r1 : w8.cell? ⟨q, 1, none⟩ = some (.int .i64 (0)) := hr8.cell (i := 1) (by omega)
          have r2 : w8.cell? ⟨q, 2, none⟩ = some (.slice none 0 0) := hr8.cell (i := 2) (by omega)
          have f0 := hr8.frozen 0; have f1 := hr8.frozen 1; have f2 := hr8.frozen 2
          have s0 : w8.cell? ⟨q + 1, 0, none⟩ = some (.int .i64 (0)) := hf8.cell (i := 0) (by omega)
          have s1 : w8.cell? ⟨q + 1, 1, none⟩ = some (.int .i64 (0)) := hf8.cell (i := 1) (by omega)
          have g0 := hf8.frozen 0; have g1 := hf8.frozen 1
          have lr : LtW q w8 := hr8.lt
          have lf : LtW (q + 1) w8 := hf8.lt
          have HBF : Hid (Below q w w8) := Lib.hid (HBW.out.trans (hb8.mono (Nat.le_of_lt HRB.out.lt)))
          clear hb8 hr8 hf8 HRB HFB HBW
          go_wp2
          refine bodyPost_ret (v := .tuple #[.agg #[.int .i64 (0), .int .i64 (0), .slice none 0 0], .agg #[.int .i64 (2), .int .i64 (((p : Int) + 1))]]) (by simp [results, Tryd.results8, go_sem, r0, r1, r2, s0, s1]) rfl ?_
          unfold UnpPost
          rw [HU.out]
          refine ⟨rfl, ?_⟩
          rw [HQE.out]
          exact ((((HBF.out.setCell bnq _).setCell bnq _).setCell bnq _).setCell bnq _).setCell bnq _
         ·have t5 : decide ((p : Int) + 1 < (N : Int)) = false := by simp; omega
          have t6 : decide (p + 1 < N) = false := by simp; omega
          have HU : Hid (unp B = (.ok acc, W, H)) := Lib.hid (by rw [HUN.out, HRS2.out, if_neg hpN])
          obtain ⟨a9, c9, e9, hT9, hg9⟩ := OkT.of_owns HTB.out.own
          subst e9
          have hr9 := HTB.out.row
          have n0 : wx.cell? ⟨mb, 0, none⟩ = some (.int .i64 (W)) := hr9.cell (i := 0) (by omega)
          have n1 : wx.cell? ⟨mb, 1, none⟩ = some (.int .i64 (H)) := hr9.cell (i := 1) (by omega)
          have n2 : wx.cell? ⟨mb, 2, none⟩ = some (.slice a9 acc.length c9) := hr9.cell (i := 2) (by omega)
          have r0 : wx.cell? ⟨q, 0, none⟩ = some (.int .i64 (0)) := HRB.out.cell (i := 0) (by omega)
          have r1 : wx.cell? ⟨q, 1, none⟩ = some (.int .i64 (0)) := HRB.out.cell (i := 1) (by omega)
          have r2 : wx.cell? ⟨q, 2, none⟩ = some (.slice none 0 0) := HRB.out.cell (i := 2) (by omega)
          have f0 := HRB.out.frozen 0; have f1 := HRB.out.frozen 1; have f2 := HRB.out.frozen 2
          have s0 : wx.cell? ⟨q + 1, 0, none⟩ = some (.int .i64 (0)) := HFB.out.cell (i := 0) (by omega)
          have s1 : wx.cell? ⟨q + 1, 1, none⟩ = some (.int .i64 (0)) := HFB.out.cell (i := 1) (by omega)
          have g0 := HFB.out.frozen 0; have g1 := HFB.out.frozen 1
          have lr : LtW q wx := HRB.out.lt
          have lf : LtW (q + 1) wx := HFB.out.lt
          have lm : LtW mb wx := hr9.lt
          have HT9 := Lib.hid hT9; have HG9 := Lib.hid hg9
          clear hr9 hT9 hg9
          go_wp2
          refine bodyPost_ret (v := .tuple #[.agg #[.int .i64 (W), .int .i64 (H), .slice a9 acc.length c9], .agg #[.int .i64 (0), .int .i64 (0)]]) (by simp [results, Tryd.results8, go_sem, r0, r1, r2, s0, s1]) rfl ?_
          unfold UnpPost
          rw [HU.out]
          refine ⟨⟨a9, c9, rfl, ?_⟩, ?_⟩
          ·exact okT_set (okT_set (okT_set (okT_set (okT_set HT9.out fun b o e => by have := HG9.out b o e; omega) fun b o e => by have := HG9.out b o e; omega) fun b o e => by have := HG9.out b o e; omega) fun b o e => by have := HG9.out b o e; omega) fun b o e => by have := HG9.out b o e; omega
          ·rw [HQE.out]
           exact ((((HBW.out.setCell bnq _).setCell bnq _).setCell bnq _).setCell bnq _).setCell bnq _
        ·have t3 : ((x : Int) != (ck : Int)) = true := by simp; omega
         have t4 : (x != ck) = true := by simp; omega
         have HU : Hid (unp B = (.bad p, W, H)) := Lib.hid (by rw [HUN.out, HRS.out, if_pos (.inr hxc)])
         clear hxc HRS
         (refine wpE_take (i := 13) rfl (by kernel_rfl) (fun _ _ _ _ h => h) (fun K hK => ?_); go_simp; first | (refine hK _ ?_; clear hK K) | (apply Exists.intro; refine ⟨fun _ _ => ?_, hK _ ?_⟩; fail; clear hK K)); (refine wpE_take (i := 14) rfl (by kernel_rfl) (fun _ _ _ _ h => h) (fun K hK => ?_); go_simp; first | (refine hK _ ?_; clear hK K) | (apply Exists.intro; refine ⟨fun _ _ => ?_, hK _ ?_⟩; fail; clear hK K)); (refine wpE_take (i := 15) rfl (by kernel_rfl) (fun _ _ _ _ h => h) (fun K hK => ?_); go_simp; first | (refine hK _ ?_; clear hK K) | (apply Exists.intro; refine ⟨fun _ _ => ?_, hK _ ?_⟩; fail; clear hK K))
         refine wpE_done (by kernel_rfl) (fun E d => ?_)
         have hb9 : Below wr.heap.size wr (extW wz E d) := bExtW hbz2 hbz2.size
         clear HFB HLA hcb HCB hsl hix hbz hIz hbz2 m0 m1 lm
         have HRB := Lib.hid (rowBelow HRw.out hb9 HRw.out.lt)
         have HFB := Lib.hid (rowBelow HFw.out hb9 HFw.out.lt)
         have HBW : Hid (Below q w (extW wz E d)) := Lib.hid (HBw.out.trans (hb9.mono (by omega)))
         clear hb9
         generalize extW wz E d = wx at *
         exact lfCd30
end
end Go.Proofs.YtajdoobkfbdgoaaDoor
