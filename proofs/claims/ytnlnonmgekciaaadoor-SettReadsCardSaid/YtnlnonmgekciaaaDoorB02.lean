/- Lemmas on which the law of this seat rests; each states its own conditions. -/
import Derived.Test.YtnlnonmgekciaaaDoorB01
import Derived.Test.YtnlnonmgekciaaaDoorRows
import Derived.IntWalk
import Derived.Lib.AppendZeros
import Derived.Deep.DeepCutAuto
import Derived.Lib.OthersKept
import Derived.Lib.DecodeN
import Derived.Lib.ItoaNum
import Derived.Lib.Atoi
set_option linter.unusedVariables false
set_option linter.unusedSimpArgs false
namespace Go.Proofs.YtnlnonmgekciaaaDoor
section
open Go.RowKit
namespace Ef
section
variable {W N : Nat} {cs p0 p : List Int} {T : List Nat} {a b : Nat}
structure Inv (W : Nat) (cs : List Int) (N : Nat) (p0 p : List Int) (T : List Nat) : Prop where
 len : p.length = N
 ext : Extd p0 p
 good : Good p
 forced : ∀ q, Good q → Extd p0 q → Closed W cs q → Extd p q
 closed : ∀ x, x < N → 0 ≤ g p x → x ∉ T → ClosedAt W cs p x
 todo : ∀ x ∈ T, x < N ∧ 0 ≤ g p x
structure InvA (W : Nat) (cs : List Int) (N : Nat) (p0 p : List Int) (T : List Nat) (a b : Nat) : Prop where
 len : p.length = N
 ext : Extd p0 p
 good : Good p
 forced : ∀ q, Good q → Extd p0 q → Closed W cs q → Extd p q
 closed : ∀ x, x < N → 0 ≤ g p x → x ∉ T → x ≠ a → ClosedAt W cs p x
 todo : ∀ x ∈ T, x < N ∧ 0 ≤ g p x
 lt : a < N
 tied : 0 ≤ g p a
 upto : ∀ y v, y < b → crs W cs a y = some v → g p a = v ∨ g p y = v
theorem InvA.done (h : InvA W cs N p0 p T a N) : Inv W cs N p0 p T :=
 ⟨h.len, h.ext, h.good, h.forced, fun x h1 h2 h3 => by
  by_cases e : x = a
  ·subst e; exact fun y v hy hv => h.upto y v (by rw [← h.len]; exact hy) hv
  ·exact h.closed x h1 h2 h3 e, h.todo⟩
end
end Ef
end
section
open Go.RowKit
theorem own_parts {w : World} {base e n c g : Nat} {xs : List Value} (h : w.ownsRow base e 1 (.slice (some ⟨g, 0, none⟩) n c) n xs) : xs.length = n ∧ base ≤ g ∧ n ≤ c ∧ c ≤ maxLen ∧ ∃ cur : Array Value, w.heap[g]? = some (.cells cur e (0, 0)) ∧ cur.size = c ∧ cur.toList.take n = xs := by
 have h0 := h.1
 rcases h.2 with ⟨e1, _⟩ | ⟨g', cap, cur, e1, hb, hg, h1, h2, h3, h4⟩
 ·cases e1
 ·injection e1 with e1 _ e3
  injection e1 with e1
  injection e1 with e1
  subst e1 e3
  rw [Nat.mul_one] at h0 h3 h4
  exact ⟨h0, hb, h1, h2, cur, hg, h3, h4⟩
theorem own_mk {w : World} {base e n c g : Nat} {xs : List Value} {cur : Array Value} (h0 : xs.length = n) (hb : base ≤ g) (h1 : n ≤ c) (h2 : c ≤ maxLen) (hg : w.heap[g]? = some (.cells cur e (0, 0))) (h3 : cur.size = c) (h4 : cur.toList.take n = xs) : w.ownsRow base e 1 (.slice (some ⟨g, 0, none⟩) n c) n xs :=
 ⟨by omega, .inr ⟨g, c, cur, rfl, hb, hg, h1, h2, by omega, by rw [Nat.mul_one]; exact h4⟩⟩
theorem own_cell {w : World} {base e n c g i : Nat} {xs : List Value} (h : w.ownsRow base e 1 (.slice (some ⟨g, 0, none⟩) n c) n xs) (hi : i < n) : w.cell? ⟨g, i, none⟩ = xs[i]? ∧ w.frozen? ⟨g, i, none⟩ = false := by
 obtain ⟨a, b, d, f, cur, g1, g2, g3⟩ := own_parts h
 refine ⟨?_, by simp [World.frozen?, g1]⟩
 have h5 : cur[i]? = xs[i]? := by
  rw [← Array.getElem?_toList, ← List.getElem?_take_of_lt hi, g3]
 simp [World.cell?, g1, h5]
theorem own_some {w : World} {base e n : Nat} {v : Value} {xs : List Value} (h : w.ownsRow base e 1 v n xs) (hn : 0 < n) : ∃ g c, v = .slice (some ⟨g, 0, none⟩) n c := by
 rcases h.2 with ⟨_, e0⟩ | ⟨g', cap, cur, e1, _⟩
 ·omega
 ·exact ⟨_, _, e1⟩
theorem wpAppK {W : World} {ops : Array Oper} {rest : List Oper} {o : Oper} {a : Act} {Q : Exit → Act → World → Prop} {t e bytes : Nat} {z : Value} (hE : ElemOk t e 1 bytes z)
  (hgd : o.guard = none) (s x : Operand) (ho : o.op = .call { callee := .builtin .append, args := #[s, x], argTypes := #[t, t] })
  (base : Nat) (v : Value) (n : Nat) (xs : List Value) (u : Value) (B : Nat) (hs : a.eval s = v) (hown : W.ownsRow base e 1 v n xs)
  (hx : a.eval x = .slice (some ⟨B, 0, none⟩) 1 1) (hcs : W.cell? ⟨B, 0, none⟩ = some u) (h1 : u.oneCell' = true)
  (hb : bytes ≤ 4096) (hn : n ≤ 100000000) (hbase : base ≤ W.heap.size)
  (h : ∀ v' w', w'.ownsRow base e 1 v' (n + 1) (xs ++ [u]) → W.grownBy w' v.ownBlock → (v'.ownBlock = v.ownBlock ∨ v'.ownBlock = some W.heap.size) → wpList Tryd.prog ops Q rest (a.put o.dst v') w') : wpList Tryd.prog ops Q (o :: rest) a W :=
 wpAppV hE hgd s x ho base v n xs (some ⟨B, 0, none⟩) 1 1 [u] hs hown hx (fun e => by cases e) rfl (fun _ => ⟨B, 0, rfl, fun j y hj => by
  have hj0 : j = 0 := by
   have := (List.getElem?_eq_some_iff.1 hj).1
   simpa using this
  subst hj0
  simp at hj
  subst hj
  exact hcs⟩) (fun y hy => by simp at hy; subst hy; exact h1) hb (by omega) hbase h
end
namespace Lo
end Lo
section
open Lo
end
section
open Go.RowKit
end
section
open Go.RowKit
open Lo
end
section
open Go.RowKit
open Ef
end
section
open Go.RowKit
section
variable {P : Program} {l : List Oper} {n : Nat} {Q : Exit → Act → World → Prop}
end
end
section
open Go.RowKit
open Ef
end
section
open Go.RowKit
end
section
open Go.RowKit
end
section
open Go.RowKit
structure SArg (ea : Option Addr) (en ec : Nat) (es : List Int) (pa : Option Addr) (pn pc : Nat) (ps : List Int) (w : World) : Prop where
 e : IsInts w ea en es
 p : IsInts w pa pn ps
end
section
open Go.RowKit
end
section
open Go.RowKit
def skipK (n : Nat) : Nat := if 17 ≤ n then n + 1 else n
def signK (c : Nat) : Nat := if c = 0 then 183 else if c = 1 then 9608 else if c < 12 then 46 + c else if c < 36 then 945 + skipK (c - 12) else 61 + c
set_option maxRecDepth 100000 in
set_option maxHeartbeats 8000000 in
theorem skipped_ok (n : Nat) (w : World) (hn : n < 62) :
  Calls Tryd.prog 53 #[.int .i64 (n)] w fun e w' => e = .returned (.int .i64 (skipK n)) ∧ Below w.heap.size w w' := by
 have v1 : IntKind.i64.wrap ((n : Int) + 1) = (n : Int) + 1 := IntWalk.i64_in _ (by omega)
 by_cases h : 17 ≤ n
 ·have hd : decide ((n : Int) ≥ 17) = true := by simp; omega
  have hk : (skipK n : Int) = n + 1 := by unfold skipK; rw [if_pos h]; rfl
  rw [hk]
  clear hk
  go_enter Tryd.func53, Tryd.ntmps53
  go_wp2
  go_ret
  exact ⟨rfl, blw⟩
 ·have hd : decide ((n : Int) ≥ 17) = false := by simp; omega
  have hk : (skipK n : Int) = n := by unfold skipK; rw [if_neg h]
  rw [hk]
  clear hk
  go_enter Tryd.func53, Tryd.ntmps53
  go_wp2
  go_ret
  exact ⟨rfl, blw⟩
set_option maxRecDepth 100000 in
set_option maxHeartbeats 8000000 in
theorem sign_ok (c : Nat) (w : World) (hn : c < 62) :
  Calls Tryd.prog 43 #[.int .i64 (c)] w fun e w' => e = .returned (.int .i32 (signK c)) ∧ Below w.heap.size w w' := by
 by_cases h0 : c = 0
 ·subst h0
  go_enter Tryd.func43, Tryd.ntmps43
  go_wp2
  go_ret
  exact ⟨rfl, blw⟩
 have d0 : ((c : Int) == 0) = false := by simp; omega
 by_cases h1 : c = 1
 ·subst h1
  go_enter Tryd.func43, Tryd.ntmps43
  go_wp2
  go_ret
  exact ⟨rfl, blw⟩
 have d1 : ((c : Int) == 1) = false := by simp; omega
 by_cases h2 : c < 12
 ·have d2 : decide ((c : Int) < 12) = true := by simp; omega
  have e : (signK c : Int) = 48 + c - 2 := by unfold signK; rw [if_neg h0, if_neg h1, if_pos h2]; omega
  have v1 : IntKind.i64.wrap (48 + (c : Int)) = 48 + c := IntWalk.i64_in _ (by omega)
  have v2 : IntKind.i64.wrap (48 + (c : Int) - 2) = 48 + c - 2 := IntWalk.i64_in _ (by omega)
  have v3 : IntKind.i32.wrap (48 + (c : Int) - 2) = 48 + c - 2 := IntWalk.i32_in _ (by omega)
  rw [e]
  clear e h0 h1 h2
  go_enter Tryd.func43, Tryd.ntmps43
  go_wp2
  go_ret
  exact ⟨rfl, blw⟩
 have d2 : decide ((c : Int) < 12) = false := by simp; omega
 by_cases h3 : c < 36
 ·have d3 : decide ((c : Int) < 36) = true := by simp; omega
  obtain ⟨k, rfl⟩ : ∃ k, c = k + 12 := ⟨c - 12, by omega⟩
  have hk : skipK k ≤ 24 := by unfold skipK; split <;> omega
  have HS := Lib.hid (fun w => skipped_ok k w (by omega))
  have e : (signK (k + 12) : Int) = 945 + skipK k := by unfold signK; rw [if_neg h0, if_neg h1, if_neg h2, if_pos h3, Nat.add_sub_cancel]; push_cast; rfl
  obtain ⟨s, hs⟩ : ∃ s, skipK k = s := ⟨_, rfl⟩
  rw [hs] at e hk HS
  have v0 : IntKind.i64.wrap (((k + 12 : Nat) : Int) - 12) = (k : Int) := by rw [IntWalk.i64_in _ (by omega)]; omega
  have v1 : IntKind.i64.wrap (945 + (s : Int)) = 945 + s := IntWalk.i64_in _ (by omega)
  have v3 : IntKind.i32.wrap (945 + (s : Int)) = 945 + s := IntWalk.i32_in _ (by omega)
  rw [e]
  clear e h0 h1 h2 hs
  generalize ((k + 12 : Nat) : Int) = C at *
  go_enter Tryd.func43, Tryd.ntmps43
  (go_wp2_with fail; refine (HS.out _).mono ?_; rintro r w1 ⟨rfl, hb⟩; obtain ⟨E, d, rfl⟩ := bExt hb; clear hb)
  go_wp2
  go_ret
  exact ⟨rfl, blw⟩
 ·have d3 : decide ((c : Int) < 36) = false := by simp; omega
  have e : (signK c : Int) = 97 + c - 36 := by unfold signK; rw [if_neg h0, if_neg h1, if_neg h2, if_neg h3]; omega
  have v1 : IntKind.i64.wrap (97 + (c : Int)) = 97 + c := IntWalk.i64_in _ (by omega)
  have v2 : IntKind.i64.wrap (97 + (c : Int) - 36) = 97 + c - 36 := IntWalk.i64_in _ (by omega)
  have v3 : IntKind.i32.wrap (97 + (c : Int) - 36) = 97 + c - 36 := IntWalk.i32_in _ (by omega)
  rw [e]
  clear e h0 h1 h2 h3
  go_enter Tryd.func43, Tryd.ntmps43
  go_wp2
  go_ret
  exact ⟨rfl, blw⟩
end
section
open Go.RowKit
set_option maxRecDepth 100000 in
def sigText : ByteArray := { data := ([48, 49, 50, 51, 52, 53, 54, 55, 56, 57, 206, 177, 206, 178, 206, 179, 206, 180, 206, 181, 206, 182, 206, 183, 206, 184, 206, 185, 206, 186, 206, 187, 206, 188, 206, 189, 206, 190, 206, 191, 207, 128].append [207, 129, 207, 131, 207, 132, 207, 133, 207, 134, 207, 135, 207, 136, 207, 137, 97, 98, 99, 100, 101, 102, 103, 104, 105, 106, 107, 108, 109, 110, 111, 112, 113, 114, 115, 116, 117, 118, 119, 120, 121, 122]).toArray }
def posK (k : Nat) : Nat := if k ≤ 10 then k else if k ≤ 34 then 2 * k - 10 else k + 24
def sigS (c : Nat) : ByteArray := Utf8.encode (signK c)
def sigs (n : Nat) : List Value := (List.range n).map fun c => .string (sigS c)
theorem sigs_succ (n : Nat) : sigs (n + 1) = sigs n ++ [.string (sigS n)] := by unfold sigs; rw [List.range_succ, List.map_append]; rfl
theorem sigs_two : sigs 2 = [Value.string { data := #[194, 183] }, Value.string { data := #[226, 150, 136] }] := by kernel_rfl
set_option maxRecDepth 100000 in
theorem sig_size : sigText.size = 84 := by decide +kernel
set_option maxRecDepth 100000 in
theorem sig_decode : ∀ k : Fin 60, Utf8.decode sigText (posK k) = (signK (k + 2), posK (k + 1) - posK k) := by decide +kernel
theorem pos_lt {k : Nat} (h : k < 60) : posK k < 84 := by unfold posK; split <;> (try split) <;> omega
theorem pos_step {k : Nat} : posK k < posK (k + 1) := by unfold posK; split <;> split <;> (try split) <;> (try split) <;> omega
set_option maxRecDepth 100000 in
theorem sig_at {k : Nat} (h : k < 60) : Utf8.decode sigText (posK k) = (signK (k + 2), posK (k + 1) - posK k) := sig_decode ⟨k, h⟩
set_option maxRecDepth 100000 in
set_option maxHeartbeats 8000000 in
theorem okStrs : ElemOk 67 9 1 16 (.string ⟨#[]⟩) := ⟨rfl, rfl, rfl, by omega⟩
theorem own_iterAt {w : World} {B e size n : Nat} {v : Value} {xs : List Value} {k : Nat} {s : ByteArray} {pos : Nat} (h : w.ownsRow B e size v n xs) (hk : w.heap[k]? = some (.stringIter s pos)) (pos' : Nat) : (w.iterAt k s pos').ownsRow B e size v n xs := by
 refine ⟨h.1, ?_⟩
 rcases h.2 with h0 | ⟨g, cap, cur, hv, hb, hg, rest⟩
 ·exact .inl h0
 ·refine .inr ⟨g, cap, cur, hv, hb, ?_, rest⟩
  rw [Lib.iterAt_other _ _ _ _ _ (fun e => by subst e; rw [hk] at hg; cases hg)]
  exact hg
theorem own_ne_iter {w : World} {B e size n : Nat} {v : Value} {xs : List Value} {k : Nat} {s : ByteArray} {pos : Nat} (h : w.ownsRow B e size v n xs) (hk : w.heap[k]? = some (.stringIter s pos)) : some k ≠ v.ownBlock := by
 rcases h.2 with ⟨rfl, _⟩ | ⟨g, cap, cur, rfl, hb, hg, rest⟩
 ·simp [Value.ownBlock]
 ·intro e
  simp only [Value.ownBlock, Option.some.injEq] at e
  subst e
  rw [hk] at hg
  cases hg
theorem iter_grown {w w' : World} {k : Nat} {s : ByteArray} {p : Nat} {g : Option Nat} (h : w.heap[k]? = some (.stringIter s p)) (hg : w.grownBy w' g) (hk : some k ≠ g) : w'.heap[k]? = some (.stringIter s p) := by
 have hlt : k < w.heap.size := (Array.getElem?_eq_some_iff.1 h).1
 rw [hg.block k hlt hk, h]
set_option maxRecDepth 100000 in
set_option maxHeartbeats 8000000 in
theorem Signs_ok (w : World) :
  Calls Tryd.prog 33 #[] w fun e w' => ∃ A c, e = .returned (.slice (some ⟨A, 0, none⟩) 62 c) ∧ w'.ownsRow w.heap.size 9 1 (.slice (some ⟨A, 0, none⟩) 62 c) 62 (sigs 62) ∧ Below w.heap.size w w' := by
 go_enter Tryd.func33, Tryd.ntmps33
 go_wp2
 go_loopw [1] (fun v wr => ∃ (k : Nat), k ≤ 60 ∧ wr.ownsRow w.heap.size 9 1 v (k + 2) (sigs (k + 2)) ∧ wr.heap[w.heap.size + 1]? = some (.stringIter sigText (posK k)) ∧ Below w.heap.size w wr) (fun _ wr => 84 - wr.iterPos (w.heap.size + 1))
 case atStart =>
  refine ⟨0, by omega, ?_, ?_, ?_⟩
  ·have hb : Below (w.heap.size + 1) (w.alloc (.cells #[Value.string { data := #[194, 183] }, Value.string { data := #[226, 150, 136] }] 9)) ((w.alloc (.cells #[Value.string { data := #[194, 183] }, Value.string { data := #[226, 150, 136] }] 9)).alloc (.stringIter sigText 0)) := (Below.refl _ _).alloc (by simp) _
   exact own_mk (cur := #[Value.string { data := #[194, 183] }, Value.string { data := #[226, 150, 136] }]) rfl (Nat.le_refl _) (Nat.le_refl _) (by unfold maxLen; omega) ((hb.block _ (by omega)).trans (heap_alloc_new w _)) rfl (by rw [sigs_two]; rfl)
  ·have := World.iter_heap (w.alloc (.cells #[Value.string { data := #[194, 183] }, Value.string { data := #[226, 150, 136] }] 9)) sigText 0
   exact (by simpa using this : ((w.alloc (.cells #[Value.string { data := #[194, 183] }, Value.string { data := #[226, 150, 136] }] 9)).iter sigText 0).heap[w.heap.size + 1]? = some (.stringIter sigText 0))
  ·exact ((Below.refl _ w).alloc (Nat.le_refl _) _).alloc (by simp) _
 case round =>
  obtain ⟨k, hk, HO, hit, hbw⟩ := hrel
  by_cases hp : k < 60
  ·have hnx : ∀ ty, (Instr.next (.pointer (some ⟨w.heap.size + 1, 0, none⟩)) true ty).run Tryd.prog wr = _ := fun ty => Lib.run_next_any_at wr (w.heap.size + 1) sigText (posK k) ty hit (by rw [sig_size]; exact pos_lt hp)
   rw [sig_at hp] at hnx
   have hst := pos_step (k := k)
   have hpp : posK k + (posK (k + 1) - posK k) = posK (k + 1) := by omega
   simp only [hpp] at hnx
   have hit2 := Lib.iterAt_heap wr (w.heap.size + 1) sigText (posK k) (posK (k + 1)) hit
   have hbw2 := Lib.below_iterAt hbw (k := w.heap.size + 1) (by omega) sigText (posK (k + 1))
   have HO2 := own_iterAt HO hit (posK (k + 1))
   obtain ⟨A, cp, rfl⟩ := own_some HO (by omega)
   have HM := Lib.hid (show wr.iterPos (w.heap.size + 1) = posK k by simp [World.iterPos, hit])
   have hlt : w.heap.size + 1 < wr.heap.size := (Array.getElem?_eq_some_iff.1 hit).1
   have hsz : w.heap.size ≤ (wr.iterAt (w.heap.size + 1) sigText (posK (k + 1))).heap.size := by rw [Lib.iterAt_size]; omega
   have HON := Lib.hid (HO2.alloc (.cells #[Value.string (Utf8.encode (signK (k + 2)))] 9))
   have HIT := Lib.hid hit2
   have HBW := Lib.hid hbw2
   have HNE := Lib.hid (own_ne_iter HO2 hit2)
   clear HO hit hbw hbw2 HO2 hit2
   generalize (wr.iterAt (w.heap.size + 1) sigText (posK (k + 1))) = WI at *
   go_wp2_with (at_builtin; refine wpAppK okStrs rfl (.tmp 9) (.tmp 12) rfl w.heap.size _ _ _ (.string (Utf8.encode (signK (k + 2)))) WI.heap.size rfl HON.out rfl ?_ rfl (by omega) (by omega) ?_ ?_)
   ·exact World.cell?_alloc_new _ _ _ _
   ·simp; omega
   intro v' w2 hown hg _
   have hb2 : Below w.heap.size WI w2 := ((Below.refl w.heap.size WI).alloc hsz _).trans (belowGrown hg (by simp; omega) fun g hk' => (HON.out.lt g hk').1)
   have hit3 : w2.heap[w.heap.size + 1]? = some (.stringIter sigText (posK (k + 1))) := by
    refine iter_grown (w := WI.alloc (.cells #[Value.string (Utf8.encode (signK (k + 2)))] 9)) ?_ hg HNE.out
    have hlt2 : w.heap.size + 1 < WI.heap.size := (Array.getElem?_eq_some_iff.1 HIT.out).1
    exact (((Below.refl (w.heap.size + 2) WI).alloc (by omega) (.cells #[Value.string (Utf8.encode (signK (k + 2)))] 9)).block _ (by omega)).trans HIT.out
   have hbw3 := HBW.out.trans hb2
   clear hb2 hg HNE HBW HIT HON
   go_wp2
   go_roundw
   case rel => exact ⟨k + 1, by omega, by rw [sigs_succ]; exact hown, hit3, hbw3⟩
   case measure =>
    have e2 : w2.iterPos (w.heap.size + 1) = posK (k + 1) := by simp [World.iterPos, hit3]
    have := pos_lt hp
    rw [e2, HM.out]
    omega
  ·have hnx : ∀ ty, (Instr.next (.pointer (some ⟨w.heap.size + 1, 0, none⟩)) true ty).run Tryd.prog wr = _ := fun ty => Lib.run_next_end_at wr (w.heap.size + 1) sigText (posK k) ty hit (by rw [sig_size]; unfold posK; split <;> (try split) <;> omega)
   obtain rfl : k = 60 := by omega
   obtain ⟨A, cp, rfl⟩ := own_some HO (by omega)
   go_wp2
   go_ret
   exact ⟨A, cp, rfl, HO, hbw⟩
end
section
open Go.RowKit
namespace By
def bytesOf (s : ByteArray) : List Nat := s.data.toList.map UInt8.toNat
theorem bytesOf_len (s : ByteArray) : (bytesOf s).length = s.size := by
 unfold bytesOf ByteArray.size
 rw [List.length_map, Array.length_toList]
theorem bytesOf_lt (s : ByteArray) : ∀ x ∈ bytesOf s, x < 256 := by
 intro x hx
 simp only [bytesOf, List.mem_map] at hx
 obtain ⟨y, _, rfl⟩ := hx
 exact y.toNat_lt
theorem bytesOf_inj {s t : ByteArray} (h : bytesOf s = bytesOf t) : s = t := by
 unfold bytesOf at h
 have h1 : s.data.toList = t.data.toList := by
  apply List.ext_getElem?
  intro i
  have h2 := congrArg (fun l : List Nat => l[i]?) h
  simp only [List.getElem?_map] at h2
  cases e1 : s.data.toList[i]? with
  | none => cases e2 : t.data.toList[i]? with
   | none => rfl
   | some y => rw [e1, e2] at h2; cases h2
  | some x => cases e2 : t.data.toList[i]? with
   | none => rw [e1, e2] at h2; cases h2
   | some y =>
    rw [e1, e2] at h2
    simp only [Option.map_some, Option.some.injEq] at h2
    rw [UInt8.toNat_inj.1 h2]
 cases s; cases t
 congr 1
 exact Array.ext' h1
theorem bytesOf_extract (s : ByteArray) (a n : Nat) (h : a + n ≤ s.size) : bytesOf (s.extract a (a + n)) = ((bytesOf s).drop a).take n := by
 unfold bytesOf
 rw [ByteArray.data_extract, Array.toList_extract, ← List.map_drop, ← List.map_take]
 congr 1
 simp [List.extract, Nat.add_sub_cancel_left]
theorem bytesOf_get! (s : ByteArray) (k : Nat) : (s.get! k).toNat = (bytesOf s).getD k 0 := by
 by_cases h : k < s.size
 ·have hk : k < s.data.toList.length := by rw [Array.length_toList]; exact h
  have hk2 : k < s.data.size := h
  unfold bytesOf
  rw [List.getD_eq_getElem?_getD, List.getElem?_map, List.getElem?_eq_getElem hk]
  show (s.data[k]!).toNat = _
  rw [getElem!_pos s.data k hk2]
  rfl
 ·have hk : ¬ k < s.data.toList.length := by rw [Array.length_toList]; exact h
  have hk2 : ¬ k < s.data.size := h
  unfold bytesOf
  rw [List.getD_eq_getElem?_getD, List.getElem?_map, List.getElem?_eq_none (by omega)]
  show (s.data[k]!).toNat = _
  rw [getElem!_neg s.data k hk2]
  rfl
def encN (r : Nat) : List Nat := if r < 128 then [r] else if r < 2048 then [192 + r / 64, 128 + r % 64] else [224 + r / 4096, 128 + r / 64 % 64, 128 + r % 64]
def sgL (k : Nat) : List Nat := encN (signK k)
theorem sigS_L : ∀ k : Fin 62, bytesOf (sigS k) = sgL k := by decide +kernel
theorem encN_len (r : Nat) : 1 ≤ (encN r).length ∧ (encN r).length ≤ 3 := by unfold encN; split <;> (try split) <;> simp
def decL (B : List Nat) (i : Nat) : Nat × Nat := Go.Lib.decodeN (B.length - i) (B.getD i 0) (B.getD (i + 1) 0) (B.getD (i + 2) 0) (B.getD (i + 3) 0)
theorem dec_L (s : ByteArray) (i : Nat) : Utf8.decode s i = decL (bytesOf s) i := by
 rw [Go.Lib.decode_at]
 unfold decL
 rw [bytesOf_len, bytesOf_get!, bytesOf_get!, bytesOf_get!, bytesOf_get!]
def hasAt (B : List Nat) (i : Nat) (l : List Nat) : Prop := (B.drop i).take l.length = l
instance (B : List Nat) (i : Nat) (l : List Nat) : Decidable (hasAt B i l) := by unfold hasAt; infer_instance
theorem hasAt_iff {B : List Nat} {i : Nat} {l : List Nat} : hasAt B i l ↔ (l = [] ∨ i + l.length ≤ B.length) ∧ ∀ j, j < l.length → B.getD (i + j) 0 = l.getD j 0 := by
 unfold hasAt
 constructor
 ·intro h
  have hl := congrArg List.length h
  rw [List.length_take, List.length_drop] at hl
  refine ⟨?_, fun j hj => ?_⟩
  ·cases l with
   | nil => exact .inl rfl
   | cons x l => right; have h4 : 0 < (x :: l).length := Nat.succ_pos _; omega
  ·have h2 : ((B.drop i).take l.length).getD j 0 = l.getD j 0 := by rw [h]
   rw [← h2, List.getD_eq_getElem?_getD, List.getD_eq_getElem?_getD, List.getElem?_take, if_pos hj, List.getElem?_drop]
 ·rintro ⟨h1, h2⟩
  rcases h1 with rfl | h1
  ·simp
  ·apply List.ext_getElem?
   intro j
   rw [List.getElem?_take]
   by_cases hj : j < l.length
   ·rw [if_pos hj, List.getElem?_drop]
    have h3 := h2 j hj
    rw [List.getD_eq_getElem?_getD, List.getD_eq_getElem?_getD, List.getElem?_eq_getElem (by omega), List.getElem?_eq_getElem hj] at h3
    rw [List.getElem?_eq_getElem (by omega), List.getElem?_eq_getElem hj]
    exact congrArg some h3
   ·rw [if_neg hj, List.getElem?_eq_none (by omega)]
theorem getD_lt {B : List Nat} (hB : ∀ x ∈ B, x < 256) (i : Nat) : B.getD i 0 < 256 := by
 rw [List.getD_eq_getElem?_getD]
 cases h : B[i]? with
 | none => simp
 | some x => exact hB x (List.mem_of_getElem? h)
set_option maxHeartbeats 4000000 in
theorem decN_iff {n b0 b1 b2 b3 r : Nat} (h0 : b0 < 256) (h1 : b1 < 256) (h2 : b2 < 256) (h3 : b3 < 256) (hr : r < 55296) :
  ((Go.Lib.decodeN n b0 b1 b2 b3).1 = r ↔ if r < 128 then b0 = r else if r < 2048 then 1 < n ∧ b0 = 192 + r / 64 ∧ b1 = 128 + r % 64 else 2 < n ∧ b0 = 224 + r / 4096 ∧ b1 = 128 + r / 64 % 64 ∧ b2 = 128 + r % 64) := by
 unfold Go.Lib.decodeN
 repeat' split
 all_goals first | omega | (simp only; omega) | (simp only; done)
set_option maxHeartbeats 4000000 in
theorem decN_len {n b0 b1 b2 b3 r : Nat} (h0 : b0 < 256) (h1 : b1 < 256) (h2 : b2 < 256) (h3 : b3 < 256) (hr : r < 55296) (h : (Go.Lib.decodeN n b0 b1 b2 b3).1 = r) :
  (Go.Lib.decodeN n b0 b1 b2 b3).2 = if r < 128 then 1 else if r < 2048 then 2 else 3 := by
 have m1 := Nat.mod_lt b0 (show 0 < 32 by omega)
 have m2 := Nat.mod_lt b0 (show 0 < 16 by omega)
 have m4 := Nat.mod_lt b1 (show 0 < 64 by omega)
 have m5 := Nat.mod_lt b2 (show 0 < 64 by omega)
 revert h
 unfold Go.Lib.decodeN
 generalize b0 % 32 = x1 at *
 generalize b0 % 16 = x2 at *
 generalize b1 % 64 = x4 at *
 generalize b2 % 64 = x5 at *
 repeat' split
 all_goals first | omega | (simp only; omega) | (simp only; done)
theorem enc_iff {B : List Nat} {i r : Nat} : hasAt B i (encN r) ↔ i < B.length ∧ (if r < 128 then B.getD i 0 = r else if r < 2048 then 1 < B.length - i ∧ B.getD i 0 = 192 + r / 64 ∧ B.getD (i + 1) 0 = 128 + r % 64 else 2 < B.length - i ∧ B.getD i 0 = 224 + r / 4096 ∧ B.getD (i + 1) 0 = 128 + r / 64 % 64 ∧ B.getD (i + 2) 0 = 128 + r % 64) := by
 rw [hasAt_iff]
 unfold encN
 split
 ·constructor
  ·rintro ⟨h1, h2⟩
   have := h2 0 (by simp)
   simp at h1 this
   exact ⟨by omega, this⟩
  ·rintro ⟨h1, h2⟩
   refine ⟨.inr (by simp; omega), fun j hj => ?_⟩
   simp at hj
   subst hj
   exact h2
 ·split
  ·constructor
   ·rintro ⟨h1, h2⟩
    have a0 := h2 0 (by simp)
    have a1 := h2 1 (by simp)
    simp at h1 a0 a1
    exact ⟨by omega, by omega, a0, a1⟩
   ·rintro ⟨h1, h2, h3, h4⟩
    refine ⟨.inr (by simp; omega), fun j hj => ?_⟩
    simp at hj
    have : j = 0 ∨ j = 1 := by omega
    rcases this with rfl | rfl
    ·exact h3
    ·exact h4
  ·constructor
   ·rintro ⟨h1, h2⟩
    have a0 := h2 0 (by simp)
    have a1 := h2 1 (by simp)
    have a2 := h2 2 (by simp)
    simp at h1 a0 a1 a2
    exact ⟨by omega, by omega, a0, a1, a2⟩
   ·rintro ⟨h1, h2, h3, h4, h5⟩
    refine ⟨.inr (by simp; omega), fun j hj => ?_⟩
    simp at hj
    have : j = 0 ∨ j = 1 ∨ j = 2 := by omega
    rcases this with rfl | rfl | rfl
    ·exact h3
    ·exact h4
    ·exact h5
theorem has_dec {B : List Nat} (hB : ∀ x ∈ B, x < 256) {i r : Nat} (hr : r < 55296) : hasAt B i (encN r) ↔ i < B.length ∧ (decL B i).1 = r := by
 rw [enc_iff]
 unfold decL
 rw [decN_iff (getD_lt hB _) (getD_lt hB _) (getD_lt hB _) (getD_lt hB _) hr]
theorem dec_len {B : List Nat} (hB : ∀ x ∈ B, x < 256) {i r : Nat} (hr : r < 55296) (h : (decL B i).1 = r) : (decL B i).2 = (encN r).length := by
 unfold decL at h ⊢
 rw [decN_len (getD_lt hB _) (getD_lt hB _) (getD_lt hB _) (getD_lt hB _) hr h]
 unfold encN
 split <;> (try split) <;> rfl
theorem sign_lt' : ∀ c : Fin 62, signK c < 55296 ∧ signK c ≠ 10 := by decide +kernel
theorem sign_inj : ∀ a b : Fin 62, signK a = signK b → a = b := by decide +kernel
def colAt (B : List Nat) (i : Nat) : Option Nat := (List.range 62).find? fun k => decide (hasAt B i (sgL k))
theorem colAt_some {B : List Nat} (hB : ∀ x ∈ B, x < 256) {i k : Nat} : colAt B i = some k ↔ k < 62 ∧ hasAt B i (sgL k) := by
 unfold colAt
 constructor
 ·intro h
  have h1 := List.find?_some h
  have h2 := List.mem_of_find?_eq_some h
  exact ⟨List.mem_range.1 h2, of_decide_eq_true h1⟩
 ·rintro ⟨hk, h⟩
  cases hc : (List.range 62).find? fun k => decide (hasAt B i (sgL k)) with
  | none =>
   have := List.find?_eq_none.1 hc k (List.mem_range.2 hk)
   simp [h] at this
  | some j =>
   have h1' := List.find?_some hc
   have h1 := of_decide_eq_true h1'
   have h2 := List.mem_range.1 (List.mem_of_find?_eq_some hc)
   have e1 := ((has_dec hB (sign_lt' ⟨j, h2⟩).1).1 h1).2
   have e2 := ((has_dec hB (sign_lt' ⟨k, hk⟩).1).1 h).2
   have := sign_inj ⟨j, h2⟩ ⟨k, hk⟩ (e1.symm.trans e2)
   simp only [Fin.mk.injEq] at this
   rw [this]
theorem colAt_none {B : List Nat} {i : Nat} : colAt B i = none ↔ ∀ k, k < 62 → ¬ hasAt B i (sgL k) := by
 unfold colAt
 rw [List.find?_eq_none]
 exact ⟨fun h k hk => by simpa using h k (List.mem_range.2 hk), fun h k hk => by simpa using h k (List.mem_range.1 hk)⟩
end By
end
namespace Se
open By (bytesOf sgL colAt hasAt)
def digN (n : Nat) : List Nat := (Go.Lib.decDigits n).map UInt8.toNat
theorem digN_small {n : Nat} (h : n < 10) : digN n = [48 + n] := by
 unfold digN
 rw [Go.Lib.decDigits, dif_pos h]
 simp only [List.map_cons, List.map_nil, UInt8.toNat_ofNat']
 rw [Nat.mod_eq_of_lt (by omega)]
theorem digN_big {n : Nat} (h : ¬ n < 10) : digN n = digN (n / 10) ++ [48 + n % 10] := by
 unfold digN
 rw [Go.Lib.decDigits, dif_neg h, List.map_append]
 simp only [List.map_cons, List.map_nil, UInt8.toNat_ofNat']
 rw [Nat.mod_eq_of_lt (by omega)]
def isDig (b : Nat) : Bool := decide (48 ≤ b ∧ b ≤ 57)
def valN (l : List Nat) : Nat := l.foldl (fun a d => 10 * a + (d - 48)) 0
theorem valN_snoc (l : List Nat) (d : Nat) : valN (l ++ [d]) = 10 * valN l + (d - 48) := by unfold valN; rw [List.foldl_append]; rfl
theorem headD_append {a b : List Nat} (h : a ≠ []) : (a ++ b).headD 0 = a.headD 0 := by
 cases a with
 | nil => exact absurd rfl h
 | cons x a => rfl
theorem snoc_cases {l : List Nat} (h : l ≠ []) : ∃ a b, l = a ++ [b] := ⟨l.dropLast, l.getLast h, (List.dropLast_concat_getLast h).symm⟩
theorem digN_val {n : Nat} : ∀ {l : List Nat}, l.length = n → l ≠ [] → l.headD 0 ≠ 48 → (∀ b ∈ l, isDig b = true) → digN (valN l) = l ∧ 10 ^ (n - 1) ≤ valN l := by
 induction n with
 | zero => intro l h hn; exact absurd (List.length_eq_zero_iff.1 h) hn
 | succ n ih =>
  intro l h hn hh hd
  obtain ⟨a, b, rfl⟩ := snoc_cases hn
  have hb := hd b (by simp)
  unfold isDig at hb
  rw [decide_eq_true_eq] at hb
  rw [List.length_append, List.length_singleton] at h
  by_cases ha : a = []
  ·subst ha
   have hh' : b ≠ 48 := hh
   have hn0 : n = 0 := by simp at h; omega
   subst hn0
   have e : valN ([] ++ [b]) = b - 48 := by show 10 * 0 + (b - 48) = b - 48; omega
   rw [e, digN_small (by omega)]
   refine ⟨?_, ?_⟩
   ·show [48 + (b - 48)] = [b]
    rw [show 48 + (b - 48) = b by omega]
   ·show 1 ≤ b - 48
    omega
  ·rw [headD_append ha] at hh
   obtain ⟨h1, h2⟩ := ih (l := a) (by omega) ha hh (fun x hx => hd x (by simp [hx]))
   have hp : 1 ≤ n := by
    have : a.length ≠ 0 := fun e => ha (List.length_eq_zero_iff.1 e)
    omega
   have hv : 1 ≤ valN a := Nat.le_trans (Nat.one_le_pow _ _ (by omega)) h2
   rw [valN_snoc, digN_big (by omega), show (10 * valN a + (b - 48)) / 10 = valN a by omega, h1, show (10 * valN a + (b - 48)) % 10 = b - 48 by omega]
   refine ⟨by rw [show 48 + (b - 48) = b by omega], ?_⟩
   obtain ⟨m, rfl⟩ : ∃ m, n = m + 1 := ⟨n - 1, by omega⟩
   simp only [Nat.add_sub_cancel] at h2 ⊢
   rw [Nat.pow_succ]
   omega
def dgs (B : List Nat) (p : Nat) : List Nat := (B.drop p).takeWhile isDig
theorem dgs_dig {B : List Nat} {p : Nat} : ∀ b ∈ dgs B p, isDig b = true := by
 unfold dgs
 intro b hb
 exact List.all_eq_true.1 (List.all_takeWhile (p := isDig) (l := B.drop p)) b hb
theorem dgs_drop (B : List Nat) (p : Nat) : B.drop p = dgs B p ++ B.drop (p + (dgs B p).length) := by
 unfold dgs
 rw [← List.drop_drop]
 generalize B.drop p = X
 have h : X.takeWhile isDig ++ X.dropWhile isDig = X := List.takeWhile_append_dropWhile
 have key : ∀ a b Y : List Nat, a ++ b = Y → Y.drop a.length = b := fun a b Y e => by rw [← e]; simp
 rw [key _ _ X h, h]
inductive SeR where
 | bad (e p : Nat)
 | ok (l : List St)
def seF (B : List Nat) (pv : Bool) : Nat → Nat → List St → SeR
 | 0, i, _ => .bad 2 i
 | f + 1, i, acc => match colAt B i with
  | none => .bad 2 i
  | some k =>
   if dgs B (i + (sgL k).length) = [] ∨ (dgs B (i + (sgL k).length)).headD 0 = 48 then .bad 2 (i + (sgL k).length)
   else if 4096 < valN (dgs B (i + (sgL k).length)) then .bad 3 (i + (sgL k).length)
   else if 256 ≤ acc.length then .bad 5 i
   else if pv = true ∧ i + (sgL k).length + (dgs B (i + (sgL k).length)).length < B.length ∧ B.getD (i + (sgL k).length + (dgs B (i + (sgL k).length)).length) 0 = 47 then
    if i + (sgL k).length + (dgs B (i + (sgL k).length)).length + 1 < B.length then .bad 2 (i + (sgL k).length + (dgs B (i + (sgL k).length)).length + 1) else .ok (acc ++ [((k : Int), (valN (dgs B (i + (sgL k).length)) : Int))])
   else if pv = false ∧ i + (sgL k).length + (dgs B (i + (sgL k).length)).length = B.length then .ok (acc ++ [((k : Int), (valN (dgs B (i + (sgL k).length)) : Int))])
   else if i + (sgL k).length + (dgs B (i + (sgL k).length)).length < B.length ∧ B.getD (i + (sgL k).length + (dgs B (i + (sgL k).length)).length) 0 = 32 then seF B pv f (i + (sgL k).length + (dgs B (i + (sgL k).length)).length + 1) (acc ++ [((k : Int), (valN (dgs B (i + (sgL k).length)) : Int))])
   else .bad 2 (i + (sgL k).length + (dgs B (i + (sgL k).length)).length)
def pvB (B : List Nat) : Bool := decide (0 < B.length ∧ B.getD 0 0 = 47)
inductive SeT where
 | bad (e p : Int)
 | ok (pv : Bool) (l : List St)
def readSe (B : List Nat) : SeT :=
 if 65536 < B.length then .bad 4 0
 else match seF B (pvB B) (B.length + 1) (pvB B).toNat [] with
  | .bad e p => .bad e p
  | .ok l => if wrS (pvB B) l ≠ 0 then .bad (wrS (pvB B) l) 0 else .ok (pvB B) l
def strL (x : St) : List Nat := sgL x.1.toNat ++ digN x.2.toNat
def joinS (l : List St) : List Nat := (l.map fun x => 32 :: strL x).flatten
def printL (pv : Bool) (l : List St) : List Nat := if pv = true then 47 :: ((joinS l).drop 1 ++ [47]) else (joinS l).drop 1
theorem joinS_cons (x : St) (l : List St) : joinS (x :: l) = 32 :: (strL x ++ joinS l) := by unfold joinS; simp
end Se
namespace Se
open By (bytesOf sgL colAt hasAt)
theorem drop_consS {B : List Nat} {q : Nat} (h : q < B.length) : B.drop q = B.getD q 0 :: B.drop (q + 1) := by
 rw [List.drop_eq_getElem_cons h, List.getD_eq_getElem?_getD, List.getElem?_eq_getElem h]
 rfl
theorem has_drop {B l : List Nat} {i : Nat} (h : hasAt B i l) : B.drop i = l ++ B.drop (i + l.length) := by
 unfold hasAt at h
 conv => lhs; rw [← List.take_append_drop l.length (B.drop i)]
 rw [h, List.drop_drop]
def OkS (x : St) : Prop := 0 ≤ x.1 ∧ x.1 < 62 ∧ 1 ≤ x.2 ∧ x.2 ≤ 4096
def tailS (pv : Bool) : List Nat := if pv = true then [47] else []
theorem join_drop (x : St) (l : List St) : (joinS (x :: l)).drop 1 = strL x ++ joinS l := by rw [joinS_cons]; rfl
theorem join_put {l : List St} (h : l ≠ []) : joinS l = 32 :: (joinS l).drop 1 := by
 cases l with
 | nil => exact absurd rfl h
 | cons x l => rw [join_drop, joinS_cons]
theorem seF_ok {B : List Nat} (hB : ∀ x ∈ B, x < 256) {pv : Bool} : ∀ (f i : Nat) (acc L : List St), seF B pv f i acc = .ok L → ∃ new, new ≠ [] ∧ L = acc ++ new ∧ B.drop i = (joinS new).drop 1 ++ tailS pv ∧ ∀ x ∈ new, OkS x
 | 0, i, acc, L, h => by unfold seF at h; cases h
 | f + 1, i, acc, L, h => by
  unfold seF at h
  split at h
  ·cases h
  ·rename_i k hk
   obtain ⟨k62, hat⟩ := (By.colAt_some hB).1 hk
   have e1 := has_drop hat
   have e2 := dgs_drop B (i + (sgL k).length)
   have hd := dgs_dig (B := B) (p := i + (sgL k).length)
   generalize dgs B (i + (sgL k).length) = d at h e2 hd
   generalize hp : i + (sgL k).length = p at h e1 e2
   split at h
   ·cases h
   ·rename_i h1
    have h1a : d ≠ [] := fun e => h1 (.inl e)
    have h1b : d.headD 0 ≠ 48 := fun e => h1 (.inr e)
    obtain ⟨g1, g2⟩ := digN_val rfl h1a h1b hd
    have g3 : 1 ≤ valN d := Nat.le_trans (Nat.one_le_pow _ _ (by omega)) g2
    split at h
    ·cases h
    ·rename_i h2
     split at h
     ·cases h
     ·have hx : OkS ((k : Int), (valN d : Int)) := by unfold OkS; simp only; omega
      have hst : strL ((k : Int), (valN d : Int)) = sgL k ++ d := by
       unfold strL
       simp only [Int.toNat_natCast]
       rw [g1]
      generalize hq : p + d.length = q at h e2
      split at h
      ·rename_i h4
       obtain ⟨a1, a2, a3⟩ := h4
       split at h
       ·cases h
       ·rename_i h5
        injection h with h
        refine ⟨[((k : Int), (valN d : Int))], by simp, h.symm, ?_, by simpa using hx⟩
        rw [join_drop, hst, e1, e2, drop_consS a2, a3, List.drop_eq_nil_of_le (by omega)]
        unfold tailS joinS
        rw [if_pos a1]
        simp
      ·split at h
       ·rename_i h4 h5
        injection h with h
        refine ⟨[((k : Int), (valN d : Int))], by simp, h.symm, ?_, by simpa using hx⟩
        rw [join_drop, hst, e1, e2, List.drop_eq_nil_of_le (by omega)]
        unfold tailS joinS
        rw [if_neg (by rw [h5.1]; simp)]
        simp
       ·split at h
        ·rename_i h4 h5 h6
         obtain ⟨new, n1, n2, n3, n4⟩ := seF_ok hB f (q + 1) _ L h
         refine ⟨((k : Int), (valN d : Int)) :: new, by simp, by rw [n2]; simp, ?_, ?_⟩
         ·rw [join_drop, hst, e1, e2, drop_consS h6.1, h6.2, n3, join_put n1]
          simp
         ·intro x hxm
          rw [List.mem_cons] at hxm
          rcases hxm with rfl | hxm
          ·exact hx
          ·exact n4 x hxm
        ·cases h
theorem print_readS {B : List Nat} (hB : ∀ x ∈ B, x < 256) {pv : Bool} {l : List St} (h : readSe B = .ok pv l) : printL pv l = B ∧ wrS pv l = 0 := by
 unfold readSe at h
 split at h
 ·cases h
 ·split at h
  ·cases h
  ·rename_i L hs
   split at h
   ·cases h
   ·rename_i hw
    injection h with h1 h2
    subst h1 h2
    refine ⟨?_, by simpa using hw⟩
    obtain ⟨new, n1, n2, n3, n4⟩ := seF_ok hB _ _ _ _ hs
    simp only [List.nil_append] at n2
    subst n2
    unfold printL
    cases hp : pvB B with
    | true =>
     rw [hp] at n3
     rw [if_pos rfl]
     unfold pvB at hp
     rw [decide_eq_true_eq] at hp
     have e := drop_consS (B := B) (q := 0) hp.1
     rw [List.drop_zero, hp.2] at e
     simp only [Bool.toNat_true] at n3
     unfold tailS at n3
     rw [if_pos rfl] at n3
     conv => rhs; rw [e]
     rw [show 0 + 1 = 1 from rfl, n3]
    | false =>
     rw [hp] at n3
     rw [if_neg (by simp)]
     simp only [Bool.toNat_false, List.drop_zero] at n3
     unfold tailS at n3
     rw [if_neg (by simp), List.append_nil] at n3
     exact n3.symm
theorem take_dig {a Y : List Nat} (ha : ∀ b ∈ a, isDig b = true) (hY : ∀ y, Y.head? = some y → isDig y = false) : (a ++ Y).takeWhile isDig = a := by
 rw [List.takeWhile_append_of_pos ha]
 cases Y with
 | nil => simp
 | cons y Y =>
  have := hY y rfl
  rw [List.takeWhile_cons_of_neg (by simp [this])]
  simp
end Se
namespace Se
open By (bytesOf sgL colAt hasAt)
theorem colAt_drop (B : List Nat) (i : Nat) : colAt (B.drop i) 0 = colAt B i := by
 unfold colAt hasAt
 simp only [List.drop_zero]
theorem dgs_at {B : List Nat} {p j : Nat} (h : ∀ x, x < j → p + x < B.length ∧ isDig (B.getD (p + x) 0) = true) (he : p + j = B.length ∨ isDig (B.getD (p + j) 0) = false) (hl : p + j ≤ B.length) : dgs B p = (B.drop p).take j ∧ (dgs B p).length = j := by
 have hlen : ((B.drop p).take j).length = j := by rw [List.length_take, List.length_drop]; omega
 have hd : ∀ b ∈ (B.drop p).take j, isDig b = true := by
  intro b hb
  obtain ⟨x, hx, rfl⟩ := List.getElem_of_mem hb
  rw [hlen] at hx
  have := (h x hx).2
  rw [List.getElem_take, List.getElem_drop]
  rw [List.getD_eq_getElem?_getD, List.getElem?_eq_getElem (h x hx).1] at this
  exact this
 have hY : ∀ y, (B.drop (p + j)).head? = some y → isDig y = false := by
  intro y hy
  rcases he with he | he
  ·rw [List.drop_eq_nil_of_le (by omega)] at hy
   cases hy
  ·rw [List.head?_drop] at hy
   rw [List.getD_eq_getElem?_getD, hy] at he
   exact he
 have e : (B.drop p).take j ++ B.drop (p + j) = B.drop p := by
  rw [← List.drop_drop]
  exact List.take_append_drop j (B.drop p)
 have : dgs B p = (B.drop p).take j := by
  unfold dgs
  conv => lhs; rw [← e]
  exact take_dig hd hY
 exact ⟨this, by rw [this, hlen]⟩
theorem decFrom_val : ∀ (l : List UInt8) (acc : Nat), (∀ b ∈ l, isDig b.toNat = true) → Go.Lib.decFrom acc l = some ((l.map UInt8.toNat).foldl (fun a d => 10 * a + (d - 48)) acc)
 | [], acc, _ => rfl
 | b :: l, acc, h => by
  have hb := h b (by simp)
  unfold isDig at hb
  rw [decide_eq_true_eq] at hb
  have hv : Go.Lib.digitVal b = some (b.toNat - 48) := by unfold Go.Lib.digitVal; rw [if_pos hb]
  unfold Go.Lib.decFrom
  rw [hv]
  simp only
  rw [decFrom_val l _ fun x hx => h x (by simp [hx]), List.map_cons, List.foldl_cons, Nat.mul_comm acc 10]
theorem atoi_val {s : ByteArray} (hne : bytesOf s ≠ []) (hd : ∀ b ∈ bytesOf s, isDig b = true) : Go.Lib.atoi s.data.toList = some (valN (bytesOf s) : Int) := by
 have hd2 : ∀ b ∈ s.data.toList, isDig b.toNat = true := fun b hb => hd _ (by unfold bytesOf; exact List.mem_map.2 ⟨b, hb, rfl⟩)
 cases hs : s.data.toList with
 | nil =>
  unfold bytesOf at hne
  rw [hs] at hne
  exact absurd rfl hne
 | cons b l =>
  rw [hs] at hd2
  have hb := hd2 b (by simp)
  unfold isDig at hb
  rw [decide_eq_true_eq] at hb
  have h1 : (b == 45) = false := by
   rw [beq_eq_false_iff_ne]
   intro e
   subst e
   exact absurd hb (by decide)
  have h2 : (b == 43) = false := by
   rw [beq_eq_false_iff_ne]
   intro e
   subst e
   exact absurd hb (by decide)
  unfold Go.Lib.atoi
  simp only [h1, h2, Bool.false_eq_true, if_false]
  unfold Go.Lib.decNat
  rw [if_neg (by simp), decFrom_val _ _ hd2]
  unfold valN bytesOf
  rw [hs]
  rfl
theorem valN_four {d : List Nat} (hd : ∀ b ∈ d, isDig b = true) (hh : d.headD 0 ≠ 48) (h4 : 4 < d.length) : 4096 < valN d := by
 have h := (digN_val (n := d.length) rfl (by intro e; subst e; simp at h4) hh hd).2
 have : 10 ^ 4 ≤ 10 ^ (d.length - 1) := Nat.pow_le_pow_right (by omega) (by omega)
 have e : 10 ^ 4 = 10000 := by decide
 omega
end Se
section
open Go.RowKit
namespace By
theorem hasAt_bd {B l : List Nat} {i : Nat} (h : hasAt B i l) (hl : l ≠ []) : i + l.length ≤ B.length := by
 rcases (hasAt_iff.1 h).1 with h1 | h1
 ·exact absurd h1 hl
 ·exact h1
theorem sgL_len (k : Nat) : 1 ≤ (sgL k).length ∧ (sgL k).length ≤ 3 := encN_len _
theorem sgL_ne (k : Nat) : sgL k ≠ [] := fun e => by have := (sgL_len k).1; rw [e] at this; simp at this
inductive RowR where
 | bad (at_ : Nat)
 | ok (row : List Nat) (at_ : Nat)
end By
end
section
open Go.RowKit
namespace By
inductive RdR where
 | bad (e : Nat) (at_ : Nat)
 | ok (rows : List (List Nat))
structure RowsOk (W : Nat) (rows : List (List Nat)) : Prop where
 w : ∀ r ∈ rows, r.length = W
 c : ∀ r ∈ rows, ∀ k ∈ r, k < 62
end By
end
end Go.Proofs.YtnlnonmgekciaaaDoor
