/- Lemmas on which the law of this seat rests; each states its own conditions. -/
import Derived.Test.YtajdoobkfbdgoaaDoorC04
import Derived.Laws.Entries
import Derived.Test.YtajdoobkfbdgoaaDoorC21
import Derived.Test.YtajdoobkfbdgoaaDoorC05
set_option linter.unusedVariables false
set_option linter.unusedSimpArgs false
namespace Go.Proofs.YtajdoobkfbdgoaaDoor
section
open Go.RowKit
open Cl
@[go_sem] theorem run_store_nilFunc (P : Program) (w : World) (a : Addr) (m : Mode) : (store a .nilFunc m).run P w = stored P w a .nilFunc m := run_store P w a _ m rfl
@[go_sem] theorem run_store_func (P : Program) (w : World) (a : Addr) (m : Mode) (fn : Fn) (x y : Array Value) : (store a (.func fn x y) m).run P w = stored P w a (.func fn x y) m := run_store P w a _ m rfl
def wrC (W H : Int) (n : Nat) : Int := if wrT W H n ≠ 0 then wrT W H n else if n = 0 then 5 else 0
structure IsCloth (w : World) (tb W H : Nat) (a : Option Addr) (n c : Nat) (bs : List Bool) : Prop where
 c0 : w.cell? ⟨tb, 0, none⟩ = some (.int .i64 (W))
 c1 : w.cell? ⟨tb, 1, none⟩ = some (.int .i64 (H))
 c2 : w.cell? ⟨tb, 2, none⟩ = some (.slice a n c)
 bits : IsBools w a n bs
theorem IsCloth.below {w w' : World} {tb W H : Nat} {a : Option Addr} {n c : Nat} {bs : List Bool} (h : IsCloth w tb W H a n c bs) (hb : Below w.heap.size w w') : IsCloth w' tb W H a n c bs :=
 ⟨bCs hb h.c0, bCs hb h.c1, bCs hb h.c2, h.bits.below hb⟩
theorem wrC_zero {W H : Int} {n : Nat} (h : wrC W H n = 0) : wrT W H n = 0 ∧ 0 < n := by
 unfold wrC at h
 split at h
 ·exact absurd h (by assumption)
 ·rename_i h1
  split at h
  ·omega
  ·exact ⟨Decidable.not_not.1 h1, by omega⟩
def webV (tb W n : Nat) : Value := .agg #[.int .i64 (W), .int .i64 (n), .func (.func 78) #[] #[.pointer (some ⟨tb, 0, none⟩)]]
set_option maxRecDepth 100000 in
set_option maxHeartbeats 8000000 in
theorem spun_ok (W H : Nat) (a : Option Addr) (n c : Nat) (w : World) (h1 : W ≤ 64) (h2 : H ≤ 64) (h3 : n ≤ 4096) (he : wrC W H n = 0) :
  Calls Tryd.prog 58 #[.agg #[.int .i64 (W), .int .i64 (H), .slice a n c]] w fun e w' => e = .returned (.tuple #[webV w.heap.size W (W+H), .int .i64 (0)]) ∧ ∃ E d, w' = extW (w.alloc (.cells #[.int .i64 (W), .int .i64 (H), .slice a n c] 33)) E d := by
 obtain ⟨hq, hn⟩ := wrC_zero he
 have HE := Lib.hid hq
 clear hq he
 have hmf : ∀ (fn : Fn) (first cap : Array Value) (w : World), (Instr.makeFunc fn first cap).run Tryd.prog w = .ok (.func fn first cap) w := fun _ _ _ _ => rfl
 have hn0 : ((n : Int) == 0) = false := by simp; omega
 go_enter Tryd.func58, Tryd.ntmps58
 (go_wp2_with fail; refine (tWrong_any W H a n c _ (by omega) (by omega) (by omega)).mono ?_; rintro r w1 ⟨rfl, hb⟩; obtain ⟨E, d, rfl⟩ := bExt hb; clear hb)
 rw [HE.out]
 go_wp2
 refine bodyPost_ret (v := .tuple #[webV w.heap.size W (W+H), .int .i64 (0)]) (by simp [results, Tryd.results58, go_sem, webV]) rfl ⟨rfl, (by repeat (first | exact ExtOf.rf _ | refine ExtOf.al ?_ _ | refine ExtOf.ex ?_ _ _))⟩
theorem lfCl10 {P : Prop} (h : P := by
 have HT := Lib.hid hT
 have HN := Lib.hid hn
 clear hT hn hb hl
 go_enter Tryd.func78, Tryd.ntmps78
 go_wp2
 go_ret
 exact ⟨by rw [HT.out]; rfl, rfl⟩) : P := h
set_option maxRecDepth 100000 in
set_option maxHeartbeats 8000000 in
theorem above_any (tb W H : Nat) (a : Option Addr) (n c : Nat) (bs : List Bool) (w : World) (h : IsCloth w tb W H a n c bs) (h1 : W ≤ 64) (h2 : H ≤ 64) (hn : n = W * H) (i j : Nat) (hi : i < W + H) (hj : j < W + H) :
  Calls Tryd.prog 78 #[.int .i64 (i), .int .i64 (j), .pointer (some ⟨tb, 0, none⟩)] w fun e w' => e = .returned (.bool (abM W H bs i j)) ∧ w = w' := by
 obtain ⟨c0, c1, c2, hl, hb⟩ := h
 have hn4 : n ≤ 4096 := by rw [hn]; exact Nat.le_trans (Nat.mul_le_mul h1 h2) (by omega)
 by_cases hiw : i < W
 ·by_cases hjw : W ≤ j
  ·have hp := place_lt (W := W) (H := H) (x := i) (y := j - W) hiw (by omega)
   obtain ⟨m, hm⟩ : ∃ m, (j - W) * W = m := ⟨_, rfl⟩
   rw [← hn, hm] at hp
   have hmul : ((j : Int) - (W : Int)) * (W : Int) = (m : Int) := by
    have e : ((j - W : Nat) : Int) = (j : Int) - W := by omega
    rw [← e, ← Int.natCast_mul, hm]
   obtain ⟨b, o, rfl, hbl, hc⟩ := hb (by omega)
   have c3 := hc (m + i) hp
   have hT : abM W H bs i j = bs.getD (m + i) false := by unfold abM; rw [if_pos ⟨hiw, hjw, hj⟩, hm]
   have HT := Lib.hid hT
   have HN := Lib.hid hn
   clear hT hn hc hb hm hl
   generalize bs.getD (m + i) false = v at *
   go_enter Tryd.func78, Tryd.ntmps78
   go_wp2
   go_ret
   exact ⟨by rw [HT.out]; rfl, rfl⟩
  ·have hT : abM W H bs i j = false := by unfold abM; rw [if_neg (by omega), if_neg (by omega)]
   exact lfCl10
 ·by_cases hjw : W ≤ j
  ·have hT : abM W H bs i j = false := by unfold abM; rw [if_neg (by omega), if_neg (by omega)]
   exact lfCl10
  ·have hp := place_lt (W := W) (H := H) (x := j) (y := i - W) (by omega) (by omega)
   have hiw' : W ≤ i := by omega
   obtain ⟨m, hm⟩ : ∃ m, (i - W) * W = m := ⟨_, rfl⟩
   rw [← hn, hm] at hp
   have hmul : ((i : Int) - (W : Int)) * (W : Int) = (m : Int) := by
    have e : ((i - W : Nat) : Int) = (i : Int) - W := by omega
    rw [← e, ← Int.natCast_mul, hm]
   obtain ⟨b, o, rfl, hbl, hc⟩ := hb (by omega)
   have c3 := hc (m + j) hp
   have hT : abM W H bs i j = !bs.getD (m + j) false := by unfold abM; rw [if_neg (by omega), if_pos ⟨by omega, hi, by omega⟩, hm]
   have HT := Lib.hid hT
   have HN := Lib.hid hn
   clear hT hn hc hb hm hl
   generalize bs.getD (m + j) false = v at *
   go_enter Tryd.func78, Tryd.ntmps78
   go_wp2
   go_ret
   exact ⟨by rw [HT.out]; rfl, rfl⟩
end
section
open Go.RowKit
open Cl
def cellBool (w : World) (b o : Nat) : Bool := match w.cell? ⟨b, o, none⟩ with | some (.bool x) => x | _ => false
theorem cellBool_row {w : World} {g t n : Nat} {f : Nat → Bool} (h : w.rowIs g t n (fun a => .bool (f a))) {a : Nat} (ha : a < n) : cellBool w g a = f a := by unfold cellBool; rw [h.cell ha]
def sliceLen : Value → Nat
 | .slice _ n _ => n
 | _ => 0
theorem cnt_congr {n : Nat} {f g : Nat → Bool} (h : ∀ a, a < n → f a = g a) : cnt n f = cnt n g := by
 unfold cnt
 congr 1
 apply List.filter_congr
 intro x hx
 exact h x (by simpa using hx)
def leftW (n g : Nat) (v : Value) (w : World) : Nat := 2 * (n - cnt n (cellBool w g)) + sliceLen v
theorem leftW_eq {w : World} {g t n : Nat} {f : Nat → Bool} {A : Option Addr} {k c : Nat} {todo : List Nat} (h : w.rowIs g t n (fun a => .bool (f a))) (hk : todo.length = k) : leftW n g (.slice A k c) w = left n f todo := by
 unfold leftW left
 rw [cnt_congr fun a ha => cellBool_row h ha, hk]
 rfl
theorem lfCl20 {P : Prop} (h : P := by
 go_wp2
 go_roundw
 case rel => exact ⟨k + 1, inn', td', by omega, by go_num, HO.out, HR.out, HB.out, hgl', HSk.out, hlf⟩
 case measure => simp [intOf]; omega) : P := h
set_option maxRecDepth 100000 in
set_option maxHeartbeats 8000000 in
theorem over_anyC (tb W H : Nat) (a : Option Addr) (n c : Nat) (bs : List Bool) (w : World) (h : IsCloth w tb W H a n c bs) (h1 : W ≤ 64) (h2 : H ≤ 64) (hn : n = W * H) (s : Nat) (hs : s < W + H) :
  Calls Tryd.prog 59 #[webV tb W (W+H), .int .i64 (s)] w fun e w' => e = .returned (.slice (some ⟨w.heap.size+1, 0, none⟩) (W+H) (W+H)) ∧ w'.rowIs (w.heap.size+1) 4 (W+H) (fun a => .bool (wp (abM W H bs) (W+H) a s)) ∧ Below w.heap.size w w' := by
 have HA := Lib.hid (fun (w' : World) (hC : IsCloth w' tb W H a n c bs) (i j : Nat) (hi : i < W+H) (hj : j < W+H) => above_any tb W H a n c bs w' hC h1 h2 hn i j hi hj)
 have HW : Hid (∀ a, wp (abM W H bs) (W+H) a s = up (abM W H bs) s a) := Lib.hid fun a => wp_iff (abM_bnd W H bs) a s
 have HBd := Lib.hid (abM_bnd W H bs)
 have HC := Lib.hid h
 unfold webV
 have hNl : W + H ≤ 128 := by omega
 clear h hn
 generalize hN : W + H = N at *
 have hN' := Lib.hid hN
 generalize abM W H bs = ab at *
 clear hN h1 h2
 have hmk := makeRow okBools rfl N (by omega) (by omega)
 have hcs : (madeCells #[Value.bool false] N)[s]? = some (.bool false) := by
  have := (World.rowIs_made w (.bool false) N 4).cell hs
  simpa [World.cell?_alloc_new] using this
 go_enter Tryd.func59, Tryd.ntmps59
 go_wp2_with fail
 obtain ⟨g, hg⟩ : ∃ g, g = w.heap.size + 1 := ⟨_, rfl⟩
 have hrow : (((w.alloc (.cells #[.int .i64 (W), .int .i64 (N), .func (.func 78) #[] #[.pointer (some ⟨tb, 0, none⟩)]] 140)).alloc (.cells ((madeCells #[Value.bool false] N).setIfInBounds s (.bool true)) 4)).alloc (.cells #[.int .i64 (s)] 3)).rowIs g 4 N (fun x => .bool (if x = s then true else false)) := by
  have h1 := (World.rowIs_made (w.alloc (.cells #[.int .i64 (W), .int .i64 (N), .func (.func 78) #[] #[.pointer (some ⟨tb, 0, none⟩)]] 140)) (.bool false) N 4).set s (.bool true)
  rw [World.setCell_alloc_new, World.size_alloc, ← hg] at h1
  exact (h1.congr (g := fun x => Value.bool (if x = s then true else false)) (fun i hi => by by_cases e : i = s <;> simp [e])).alloc (.cells #[.int .i64 (s)] 3)
 have hown : (((w.alloc (.cells #[.int .i64 (W), .int .i64 (N), .func (.func 78) #[] #[.pointer (some ⟨tb, 0, none⟩)]] 140)).alloc (.cells ((madeCells #[Value.bool false] N).setIfInBounds s (.bool true)) 4)).alloc (.cells #[.int .i64 (s)] 3)).ownsRow (g+1) 3 1 (.slice (some ⟨g + 1, 0, none⟩) 1 1) [s].length (natV [s]) := by
  have h1 := World.ownsRow_lit (base := g+1) (e := 3) (size := 1) ((w.alloc (.cells #[.int .i64 (W), .int .i64 (N), .func (.func 78) #[] #[.pointer (some ⟨tb, 0, none⟩)]] 140)).alloc (.cells ((madeCells #[Value.bool false] N).setIfInBounds s (.bool true)) 4)) #[.int .i64 (s)] 1 (by simp [hg]) (by decide) rfl
  rw [World.size_alloc, World.size_alloc, ← hg] at h1
  exact h1
 have hB0 : Below w.heap.size w (((w.alloc (.cells #[.int .i64 (W), .int .i64 (N), .func (.func 78) #[] #[.pointer (some ⟨tb, 0, none⟩)]] 140)).alloc (.cells ((madeCells #[Value.bool false] N).setIfInBounds s (.bool true)) 4)).alloc (.cells #[.int .i64 (s)] 3)) := blw
 have hw1 : (((w.alloc (.cells #[.int .i64 (W), .int .i64 (N), .func (.func 78) #[] #[.pointer (some ⟨tb, 0, none⟩)]] 140)).alloc (.cells ((madeCells #[Value.bool false] N).setIfInBounds s (.bool true)) 4)).alloc (.cells #[.int .i64 (s)] 3)).cell? ⟨w.heap.size, 1, none⟩ = some (.int .i64 (N)) := by simp [go_sem]
 have hw2 : (((w.alloc (.cells #[.int .i64 (W), .int .i64 (N), .func (.func 78) #[] #[.pointer (some ⟨tb, 0, none⟩)]] 140)).alloc (.cells ((madeCells #[Value.bool false] N).setIfInBounds s (.bool true)) 4)).alloc (.cells #[.int .i64 (s)] 3)).cell? ⟨w.heap.size, 2, none⟩ = some (.func (.func 78) #[] #[.pointer (some ⟨tb, 0, none⟩)]) := by simp [go_sem]
 have hsz : (((w.alloc (.cells #[.int .i64 (W), .int .i64 (N), .func (.func 78) #[] #[.pointer (some ⟨tb, 0, none⟩)]] 140)).alloc (.cells ((madeCells #[Value.bool false] N).setIfInBounds s (.bool true)) 4)).alloc (.cells #[.int .i64 (s)] 3)).heap.size = g + 2 := by simp [hg]
 generalize (((w.alloc (.cells #[.int .i64 (W), .int .i64 (N), .func (.func 78) #[] #[.pointer (some ⟨tb, 0, none⟩)]] 140)).alloc (.cells ((madeCells #[Value.bool false] N).setIfInBounds s (.bool true)) 4)).alloc (.cells #[.int .i64 (s)] 3)) = W0 at *
 rw [← hg]
 have HG := Lib.hid hg
 obtain ⟨q, hq⟩ : ∃ q, q = w.heap.size := ⟨_, rfl⟩
 rw [← hq] at hw1 hw2 ⊢
 have HQ := Lib.hid hq
 have HQG : Hid (g = q + 1) := Lib.hid (by omega)
 have hqg : q < g := by omega
 clear hg hq hcs hmk
 go_loopw [6] (fun v wr => ∃ (todo : List Nat) (inn : Nat → Bool), wr.ownsRow (g+1) 3 1 v todo.length (natV todo) ∧ wr.rowIs g 4 N (fun a => .bool (inn a)) ∧ Below g W0 wr ∧ g + 1 ≤ wr.heap.size ∧ Srch N ab s inn todo N 0 ∧ left N inn todo ≤ 2 * N + 1) (fun v wr => leftW N g v wr)
 case atStart => exact ⟨[s], _, hown, hrow, Below.refl _ _, by omega, Srch.start hs, by simp [left]; omega⟩
 case round =>
  clear hrow hown hsz
  obtain ⟨todo, inn, hown, hrow, hbel, hgl, hS, hle⟩ := hrel
  obtain ⟨A, cp, rfl⟩ := own_form hown
  rcases List.eq_nil_or_concat todo with rfl | ⟨td, b, rfl⟩
  ·have HR := Lib.hid hrow
   have HB := Lib.hid hbel
   have HS := Lib.hid hS
   clear hown hrow hbel hS
   simp only [List.length_nil]
   go_wp2
   go_ret
   rw [← HQ.out, ← HQG.out]
   refine ⟨rfl, ?_, ?_⟩
   ·skip
    exact HR.out.congr fun i hi => by rw [HS.out.end_ HBd.out, ← HW.out]
   ·exact (HQ.out ▸ hB0.trans (HB.out.mono (by have := HQ.out; omega)))
  ·rw [List.concat_eq_append] at hown hS ⊢
   have hl0 := leftW_eq (A := A) (c := cp) (todo := td ++ [b]) hrow rfl
   have HLW := Lib.hid hl0
   clear hl0
   simp only [List.length_append, List.length_cons, List.length_nil, Nat.zero_add] at hown ⊢
   rw [natV_snoc] at hown
   obtain ⟨g2, hg2, rfl⟩ : ∃ g2, g + 1 ≤ g2 ∧ A = some ⟨g2, 0, none⟩ := by
    rcases hown.2 with ⟨h, _⟩ | ⟨g', _, _, h, hh, _⟩
    ·cases h
    ·injection h with h1 _ _; exact ⟨g', hh, h1⟩
   have hcl : wr.cell? ⟨g2, td.length, none⟩ = some (.int .i64 (b)) := by
    rw [hown.cellAt td.length (by omega)]
    simp [natV]
   have hpop := ownsRow_pop (by simp [natV]) hown
   have hbN : b < N := hS.lt b (hS.todo_in b (by simp))
   have hS0 := hS.pop
   have hcap : td.length + 1 ≤ cp := by
    rcases hown.2 with ⟨h, _⟩ | ⟨_, _, _, h, _, _, hh, _⟩
    ·cases h
    ·injection h with _ _ h3; omega
   have htl : td.length ≤ 2 * N + 1 := by simp [left] at hle; omega
   have HS0 := Lib.hid hS0
   have HO0 := Lib.hid hpop
   have HR0 := Lib.hid hrow
   have HB0 := Lib.hid hbel
   have hw2' : wr.cell? ⟨q, 1, none⟩ = some (.int .i64 (N)) := (hbel.cell (p := ⟨q, 1, none⟩) hqg).trans hw1
   clear hown hpop hS hS0 hrow hbel
   go_wp2_with fail
   have hlp : left N inn td < left N inn (td ++ [b]) := by simp [left]
   go_loopw [33, 6] (fun i v wq => ∃ (k : Nat) (inn' : Nat → Bool) (td' : List Nat), k ≤ N ∧ i = .int .i64 k ∧ wq.ownsRow (g+1) 3 1 v td'.length (natV td') ∧ wq.rowIs g 4 N (fun a => .bool (inn' a)) ∧ Below g W0 wq ∧ g + 1 ≤ wq.heap.size ∧ Srch N ab s inn' td' b k ∧ left N inn' td' ≤ left N inn td) (fun i _ _ => N - (intOf i).toNat)
   case atStart => exact ⟨0, inn, td, Nat.zero_le _, rfl, HO0.out, HR0.out, HB0.out, hgl, HS0.out, Nat.le_refl _⟩
   case round =>
    clear hcl hw2'
    obtain ⟨k, inn', td', hk, rfl, hown, hrow, hbel, hgl', hS, hlf⟩ := hrel
    obtain ⟨A, cp', rfl⟩ := own_form hown
    have htl' : td'.length ≤ 2 * N + 1 := by simp [left] at hle hlf; omega
    by_cases hkN : k < N
    ·have c0 := hrow.cell hkN
     have f0 := hrow.frozen k
     have cw : wr.cell? ⟨q, 2, none⟩ = _ := (hbel.cell (p := ⟨q, 2, none⟩) hqg).trans hw2
     cases hik : inn' k with
     | true =>
      rw [hik] at c0
      have HSk := Lib.hid (hS.skip (.inl hik))
      have HO := Lib.hid hown; have HR := Lib.hid hrow; have HB := Lib.hid hbel
      clear hown hrow hbel hS hik f0 cw
      exact lfCl20
     | false =>
      rw [hik] at c0
      have hcl : IsCloth wr tb W H a n c bs := HC.out.below (hB0.trans (by have := hbel.mono (B' := w.heap.size) (by have := HQ.out; omega); exact this))
      have HCl := Lib.hid hcl
      have HIK := Lib.hid hik
      have HO := Lib.hid hown; have HR := Lib.hid hrow; have HB := Lib.hid hbel; have HS := Lib.hid hS
      clear hown hrow hbel hS hik hcl
      cases hab : ab k b with
      | false =>
       have HSk := Lib.hid (HS.out.skip (.inr hab))
       have HAB := Lib.hid hab
       clear hab
       go_wp2_with fail
       refine (HA.out _ HCl.out k b hkN hbN).mono ?_
       rintro r w1 ⟨rfl, rfl⟩
       rw [HAB.out]
       exact lfCl20
      | true =>
       have HSk := Lib.hid (HS.out.push hkN hbN hab)
       have HAB := Lib.hid hab
       have hlq := left_push (todo := td') hkN HIK.out
       clear hab
       have ho2 := ownsRow_setCell_below HO.out (a := ⟨g, k, none⟩) (by simp) (.bool true)
       have HO2 := Lib.hid ho2
       clear ho2
       go_wp2_with fail
       refine (HA.out _ HCl.out k b hkN hbN).mono ?_
       rintro r w1 ⟨rfl, rfl⟩
       rw [HAB.out]
       go_wp2_with (at_builtin; refine wpApp okInts' rfl (.tmp 51) (.tmp 53) rfl (g+1) _ _ _ #[.int .i64 k] rfl HO2.out (by rw [World.size_setCell]; rfl) rfl ?_ (by omega) (by omega) (by rw [World.size_setCell]; omega) ?_)
       ·simp [Value.oneCell']
       intro v' w2 hown2 hb2
       rw [← natV_snoc] at hown2
       have HO3 : Hid (w2.ownsRow (g+1) 3 1 v' (td' ++ [k]).length (natV (td' ++ [k]))) := Lib.hid (by rw [List.length_append]; exact hown2)
       have HB3 : Hid (Below g W0 w2) := Lib.hid ((HB.out.setCell (by simp) _).trans (hb2.mono (by omega)))
       have HR3 : Hid (w2.rowIs g 4 N (fun x => .bool (if x = k then true else inn' x))) :=
        Lib.hid (rowBelow ((HR.out.set k (.bool true)).congr (fun i hi => by by_cases e : i = k <;> simp [e])) hb2 (by omega))
       have hs2 := hb2.size
       rw [World.size_setCell] at hs2
       clear hown2 hb2 c0 f0 cw
       go_wp2
       go_roundw
       case rel => exact ⟨k + 1, _, td' ++ [k], by omega, by go_num, HO3.out, HR3.out, HB3.out, by omega, HSk.out, by omega⟩
       case measure => simp [intOf]; omega
    ·obtain rfl : k = N := by omega
     have HSd := Lib.hid (hS.done hbN)
     have HO := Lib.hid hown; have HR := Lib.hid hrow; have HB := Lib.hid hbel
     have HM := Lib.hid (leftW_eq (A := A) (c := cp') (todo := td') hrow rfl)
     clear hown hrow hbel hS
     go_wp2
     go_roundw
     case rel => exact ⟨td', inn', HO.out, HR.out, HB.out, hgl', HSd.out, by rw [List.concat_eq_append] at hle; omega⟩
     case measure => rw [HM.out]; have := HLW.out; simp only [List.length_append, List.length_cons, List.length_nil, Nat.zero_add] at this; rw [this]; omega
end
section
open Go.RowKit
open Cl
def LiftPost (L : List Nat) (w : World) (r : Ending) (w' : World) : Prop :=
 ∃ A c, r = .returned (.tuple #[.slice A L.length c, .int .i64 (0)]) ∧ IsInts w' A L.length (natI L) ∧ Below w.heap.size w w' ∧ ∀ b o, A = some ⟨b, o, none⟩ → w.heap.size ≤ b
set_option maxRecDepth 100000 in
set_option maxHeartbeats 8000000 in
theorem Lift_ok (W H : Nat) (a : Option Addr) (n c : Nat) (bs : List Bool) (w : World) (hi : IsBools w a n bs) (h1 : W ≤ 64) (h2 : H ≤ 64) (hn : n = W * H) (he : wrC W H n = 0) :
  Calls Tryd.prog 34 #[.agg #[.int .i64 (W), .int .i64 (H), .slice a n c]] w (LiftPost (lift (W+H) (abM W H bs)) w) := by
 have hn4 : n ≤ 4096 := by rw [hn]; exact Nat.le_trans (Nat.mul_le_mul h1 h2) (by omega)
 have HS := Lib.hid (fun w => spun_ok W H a n c w h1 h2 hn4 he)
 have HOv := Lib.hid (fun (tb : Nat) (w' : World) (hC : IsCloth w' tb W H a n c bs) (s : Nat) (hs : s < W + H) => over_anyC tb W H a n c bs w' hC h1 h2 hn s hs)
 have HI := Lib.hid hi
 have hNl : W + H ≤ 128 := by omega
 clear hi he hn hn4
 generalize hN : W + H = N at *
 have HN := Lib.hid hN
 generalize abM W H bs = ab at *
 clear hN h1 h2
 go_enter Tryd.func34, Tryd.ntmps34
 go_wp2_with fail
 refine (HS.out _).mono ?_
 rintro r w1 ⟨rfl, E, d, rfl⟩
 unfold webV
 go_wp2_with fail
 have hC0 : IsCloth ((extW ((w.alloc (.cells #[.int .i64 (W), .int .i64 (H), .slice a n c] 33)).alloc (.cells #[.int .i64 (W), .int .i64 (H), .slice a n c] 33)) E d).alloc (.cells #[.int .i64 (W), .int .i64 (N), .func (.func 78) #[] #[.pointer (some ⟨w.heap.size+1, 0, none⟩)]] 140)) (w.heap.size+1) W H a n c bs := ⟨by simp [go_sem], by simp [go_sem], by simp [go_sem], HI.out.below blw⟩
 have hw0 : ((extW ((w.alloc (.cells #[.int .i64 (W), .int .i64 (H), .slice a n c] 33)).alloc (.cells #[.int .i64 (W), .int .i64 (H), .slice a n c] 33)) E d).alloc (.cells #[.int .i64 (W), .int .i64 (N), .func (.func 78) #[] #[.pointer (some ⟨w.heap.size+1, 0, none⟩)]] 140)).cell? ⟨w.heap.size+1+1+E.size, 0, none⟩ = some (.int .i64 (W)) := by simp [go_sem]
 have hw1 : ((extW ((w.alloc (.cells #[.int .i64 (W), .int .i64 (H), .slice a n c] 33)).alloc (.cells #[.int .i64 (W), .int .i64 (H), .slice a n c] 33)) E d).alloc (.cells #[.int .i64 (W), .int .i64 (N), .func (.func 78) #[] #[.pointer (some ⟨w.heap.size+1, 0, none⟩)]] 140)).cell? ⟨w.heap.size+1+1+E.size, 1, none⟩ = some (.int .i64 (N)) := by simp [go_sem]
 have hw2 : ((extW ((w.alloc (.cells #[.int .i64 (W), .int .i64 (H), .slice a n c] 33)).alloc (.cells #[.int .i64 (W), .int .i64 (H), .slice a n c] 33)) E d).alloc (.cells #[.int .i64 (W), .int .i64 (N), .func (.func 78) #[] #[.pointer (some ⟨w.heap.size+1, 0, none⟩)]] 140)).cell? ⟨w.heap.size+1+1+E.size, 2, none⟩ = some (.func (.func 78) #[] #[.pointer (some ⟨w.heap.size+1, 0, none⟩)]) := by simp [go_sem]
 have hB0 : Below w.heap.size w ((extW ((w.alloc (.cells #[.int .i64 (W), .int .i64 (H), .slice a n c] 33)).alloc (.cells #[.int .i64 (W), .int .i64 (H), .slice a n c] 33)) E d).alloc (.cells #[.int .i64 (W), .int .i64 (N), .func (.func 78) #[] #[.pointer (some ⟨w.heap.size+1, 0, none⟩)]] 140)) := blw
 generalize ((extW ((w.alloc (.cells #[.int .i64 (W), .int .i64 (H), .slice a n c] 33)).alloc (.cells #[.int .i64 (W), .int .i64 (H), .slice a n c] 33)) E d).alloc (.cells #[.int .i64 (W), .int .i64 (N), .func (.func 78) #[] #[.pointer (some ⟨w.heap.size+1, 0, none⟩)]] 140)) = W0 at *
 generalize w.heap.size+1+1+E.size = wb at *
 generalize htb : w.heap.size+1 = tb at *
 have HTB := Lib.hid htb
 have HB0 := Lib.hid hB0
 have HC0 := Lib.hid hC0
 clear htb hB0 hC0 HI
 go_loopw [20] (fun i wr => ∃ s : Nat, s ≤ N ∧ i = .int .i64 s ∧ Below W0.heap.size W0 wr ∧ Hid (∀ x, x < s → ¬ cnt N (fun a => wp ab N a x) < N)) (fun i _ => N - (intOf i).toNat)
 case atStart => exact ⟨0, Nat.zero_le _, rfl, Below.refl _ _, Lib.hid (by omega)⟩
 case round =>
  obtain ⟨s, hs, rfl, hbel, HM⟩ := hrel
  by_cases hsN : s < N
  ·have c0 := bCs hbel hw0; have c1 := bCs hbel hw1; have c2 := bCs hbel hw2
   have HCl := Lib.hid (HC0.out.below hbel)
   have HB := Lib.hid hbel
   clear hbel
   go_wp2_with fail
   refine (HOv.out tb _ HCl.out s hsN).mono ?_
   rintro r w1 ⟨rfl, hrow, hb1⟩
   have d1 := bCs hb1 c1
   have hz1 : Below W0.heap.size W0 w1 := HB.out.trans (hb1.mono HB.out.size)
   have HR := Lib.hid hrow
   have HB1 := Lib.hid hz1
   have hgl := hrow.lt
   generalize wr.heap.size + 1 = g at *
   clear hrow hb1 hz1 c0 c1 c2
   go_wp2_with fail
   go_loopw [27, 7] (fun i v wq => ∃ k : Nat, k ≤ N ∧ i = .int .i64 k ∧ wq.ownsRow w1.heap.size 3 1 v ((List.range k).filter (fun a => wp ab N a s)).length (natV ((List.range k).filter (fun a => wp ab N a s))) ∧ Below w1.heap.size w1 wq) (fun i _ _ => N - (intOf i).toNat)
   case atStart => exact ⟨0, Nat.zero_le _, rfl, World.ownsRow_nil _ _ _ _, Below.refl _ _⟩
   case round =>
    obtain ⟨k, hk, rfl, hown, hbq⟩ := hrel
    have hkl := cnt_le k (fun a => wp ab N a s)
    unfold cnt at hkl
    by_cases hkN : k < N
    ·have c0 := bCs hbq (HR.out.cell hkN)
     have HF := Lib.hid (filter_snoc k (fun a => wp ab N a s))
     have HO := Lib.hid hown
     have HBQ := Lib.hid hbq
     have hsz := hbq.size
     clear hown hbq d1
     generalize (List.range k).filter (fun a => wp ab N a s) = L at *
     cases hf : wp ab N k s with
     | false =>
      rw [hf] at c0
      have HFk := Lib.hid hf
      clear hf
      go_wp2
      go_roundw
      case rel => exact ⟨k + 1, by omega, by go_num, by rw [HF.out, HFk.out]; simpa using HO.out, HBQ.out⟩
      case measure => simp [intOf]; omega
     | true =>
      rw [hf] at c0
      have HFk := Lib.hid hf
      clear hf
      go_wp2_with (at_builtin; refine wpApp okInts' rfl (.tmp 33) (.tmp 35) rfl w1.heap.size _ _ _ #[.int .i64 k] rfl HO.out rfl rfl ?_ (by omega) (by omega) hsz ?_)
      ·simp [Value.oneCell']
      intro v' w2 hown2 hb2
      have HB2 := Lib.hid (HBQ.out.trans hb2)
      have HO2 := Lib.hid hown2
      clear hown2 hb2 c0
      go_wp2
      go_roundw
      case rel => exact ⟨k + 1, by omega, by go_num, by rw [HF.out, HFk.out]; simp only [if_true]; rw [natV_snoc, List.length_append]; exact HO2.out, HB2.out⟩
      case measure => simp [intOf]; omega
    ·obtain rfl : k = N := by omega
     have e1 := bCs hbq d1
     obtain ⟨A, cp, rfl⟩ := own_form hown
     have HO := Lib.hid hown
     have HBQ := Lib.hid hbq
     have hBB : Below W0.heap.size W0 wr := HB1.out.trans (hbq.mono HB1.out.size)
     have HBB := Lib.hid hBB
     clear hown hbq hBB d1
     by_cases hlt : ((List.range k).filter (fun a => wp ab k a s)).length < k
     ·have HL := Lib.hid (lift_some hsN hlt HM.out)
      generalize hLL : (List.range k).filter (fun a => wp ab k a s) = L at *
      clear hLL
      go_wp2
      go_ret2
      obtain ⟨A', c', e, hI⟩ := IsInts.of_owns (zs := natI L) (n := L.length) (by simp [natI]) (by rw [natI_map]; exact HO.out)
      injection e with e1 _ e3
      subst e1
      unfold LiftPost
      rw [HL.out]
      exact ⟨A, cp, rfl, hI, HB0.out.trans (HBB.out.mono HB0.out.size), fun b o e => by
       have q1 := (HO.out.lt b (by rw [e]; rfl)).1
       have q2 := HB1.out.size
       have q3 := HB0.out.size
       omega⟩
     ·have HN1 : Hid (∀ x, x < s + 1 → ¬ cnt k (fun a => wp ab k a x) < k) := Lib.hid (by
       intro x hx
       by_cases e : x = s
       ·subst e; exact hlt
       ·exact HM.out x (by omega))
      generalize (List.range k).filter (fun a => wp ab k a s) = L at *
      go_wp2
      go_roundw
      case rel => exact ⟨s + 1, by omega, by go_num, HBB.out, HN1⟩
      case measure => simp [intOf]; omega
  ·obtain rfl : s = N := by omega
   have HL := Lib.hid (lift_none HM.out)
   have HB := Lib.hid hbel
   clear hbel
   go_wp2
   go_ret2
   unfold LiftPost
   rw [HL.out]
   exact ⟨none, 0, rfl, ⟨rfl, fun h => by simp at h⟩, HB0.out.trans (HB.out.mono HB0.out.size), fun b o e => by cases e⟩
end
section
open Go.RowKit
def bIdx (r : List Bool) (v : Bool) : Nat := r.findIdx fun b => decide (b = v)
theorem bIdx_at {r : List Bool} {v : Bool} {k : Nat} (hk : k < r.length) (h1 : ∀ j, j < k → r.getD j false ≠ v) (h2 : r.getD k false = v) : bIdx r v = k := by
 unfold bIdx
 rw [List.findIdx_eq hk]
 refine ⟨?_, fun j hj => ?_⟩
 ·rw [List.getD_eq_getElem?_getD, List.getElem?_eq_getElem hk] at h2
  simpa using h2
 ·have := h1 j hj
  rw [List.getD_eq_getElem?_getD, List.getElem?_eq_getElem (by omega)] at this
  simpa using this
theorem bIdx_none {r : List Bool} {v : Bool} (h1 : ∀ j, j < r.length → r.getD j false ≠ v) : bIdx r v = r.length := by
 unfold bIdx
 rw [List.findIdx_eq_length]
 intro x hx
 obtain ⟨j, hj, rfl⟩ := List.getElem_of_mem hx
 have := h1 j hj
 rw [List.getD_eq_getElem?_getD, List.getElem?_eq_getElem hj] at this
 simpa using this
theorem bIdx_spec {r : List Bool} {v : Bool} (h : bIdx r v < r.length) : r.getD (bIdx r v) false = v ∧ ∀ j, j < bIdx r v → r.getD j false ≠ v := by
 have h1 := List.findIdx_getElem (w := h)
 refine ⟨?_, fun j hj => ?_⟩
 ·rw [List.getD_eq_getElem?_getD, List.getElem?_eq_getElem h]
  exact of_decide_eq_true h1
 ·have h2 := List.not_of_lt_findIdx (xs := r) (p := fun b => decide (b = v)) hj
  rw [List.getD_eq_getElem?_getD, List.getElem?_eq_getElem (by omega)]
  simpa using h2
set_option maxRecDepth 100000 in
set_option maxHeartbeats 8000000 in
theorem Index_any (a : Option Addr) (n c : Nat) (r : List Bool) (v : Bool) (w : World) (hi : IsBools w a n r) (m : n ≤ 1000000) :
  Calls Tryd.prog 94 #[.slice a n c, .bool v] w fun e w' => e = .returned (.int .i64 (idxV n (bIdx r v))) ∧ w = w' := by
 have HI := Lib.hid hi
 have HL := Lib.hid hi.1
 clear hi
 go_enter Tryd.func94, Tryd.ntmps94
 go_wp2_with fail
 go_loop [8] (fun i => ∃ k : Nat, k ≤ n ∧ i = .int .i64 k ∧ Hid (∀ j, j < k → r.getD j false ≠ v)) (fun i => n - (intOf i).toNat)
 case atStart => exact ⟨0, Nat.zero_le _, rfl, Lib.hid (by omega)⟩
 case round =>
  obtain ⟨k, hk, rfl, HK⟩ := hrel
  by_cases hkn : k < n
  ·obtain ⟨b, o, rfl, hbl, hx⟩ := HI.out.2 (by omega)
   have k1 := hx k hkn
   obtain ⟨x, hx2⟩ : ∃ x, r.getD k false = x := ⟨_, rfl⟩
   rw [hx2] at k1
   have HX := Lib.hid hx2
   have HY : Hid (x = v → bIdx r v = k) := Lib.hid (fun e => bIdx_at (by rw [HL.out]; exact hkn) HK.out (by rw [HX.out, e]))
   have HN : Hid (x ≠ v → ∀ j, j < k + 1 → r.getD j false ≠ v) := Lib.hid (by
    intro hxv j hj
    by_cases e : j = k
    ·subst e; rw [HX.out]; exact hxv
    ·exact HK.out j (by omega))
   clear hx hx2 hbl
   cases x <;> cases v
   all_goals go_wp2
   ·go_ret
    exact ⟨by rw [HY.out (by first | rfl | trivial), show idxV n k = k from if_pos hkn]; rfl, rfl⟩
   ·go_round
    case rel => exact ⟨k + 1, by omega, by go_num, Lib.hid (HN.out (by simp))⟩
    case measure => simp [intOf]; omega
   ·go_round
    case rel => exact ⟨k + 1, by omega, by go_num, Lib.hid (HN.out (by simp))⟩
    case measure => simp [intOf]; omega
   ·go_ret
    exact ⟨by rw [HY.out (by first | rfl | trivial), show idxV n k = k from if_pos hkn]; rfl, rfl⟩
  ·obtain rfl : k = n := by omega
   have HE : Hid (bIdx r v = k) := Lib.hid (by rw [bIdx_none (by rw [HL.out]; exact HK.out), HL.out])
   go_wp2
   go_ret
   exact ⟨by rw [HE.out, show idxV k k = -1 from if_neg (by omega)]; rfl, rfl⟩
end
end Go.Proofs.YtajdoobkfbdgoaaDoor
