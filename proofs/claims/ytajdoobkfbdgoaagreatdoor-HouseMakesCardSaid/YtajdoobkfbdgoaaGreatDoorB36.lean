/- Lemmas on which the law of this seat rests; each states its own conditions. -/
import Derived.Test.YtajdoobkfbdgoaaGreatDoorB35
import Derived.Test.YtajdoobkfbdgoaaGreatDoorB29
import Derived.Test.YtajdoobkfbdgoaaGreatDoorB07
import Derived.Test.YtajdoobkfbdgoaaGreatDoorB30
import Derived.Test.YtajdoobkfbdgoaaGreatDoorB31
import Derived.Test.YtajdoobkfbdgoaaGreatDoorB06
import Derived.Lib.ConvBytes
import Derived.Test.YtajdoobkfbdgoaaGreatDoorB33
set_option linter.unusedVariables false
set_option linter.unusedSimpArgs false
namespace Go.Proofs.YtajdoobkfbdgoaaGreatDoor
section
open Go.RowKit
open Cl
theorem TInv.at {N rb : Nat} {R : Nat → Nat → Bool} {w : World} (h : TInv N rb N R w) {s a : Nat} (hs : s < N) (ha : a < N) : ∃ g c, w.cell? ⟨rb, s, none⟩ = some (.slice (some ⟨g, 0, none⟩) N c) ∧ LtW g w ∧ w.cell? ⟨g, a, none⟩ = some (.bool (R s a)) ∧ LtW rb w := by
 obtain ⟨blk, cap, h1, h2, _⟩ := h.get
 obtain ⟨q1, q2, _, q4⟩ := h2 s hs
 exact ⟨blk s, cap s, q1, q2, q4 a ha, h1⟩
set_option maxRecDepth 100000 in
set_option maxHeartbeats 8000000 in
theorem rLift_ok (W H : Nat) (a : Option Addr) (n c : Nat) (bs : List Bool) (w : World) (hi : IsBools w a n bs) (h1 : W ≤ 64) (h2 : H ≤ 64) (hn : n = W * H) (he : wrC W H n = 0) :
  Calls Tryz.prog 20 #[.agg #[.int .i64 (W), .int .i64 (H), .slice a n c]] w (LiftPost (lift (W+H) (abM W H bs)) w) := by
 have hn4 : n ≤ 4096 := by rw [hn]; exact Nat.le_trans (Nat.mul_le_mul h1 h2) (by omega)
 have HS := Lib.hid (fun w => r8Wrong_any W H a n c w (by omega) (by omega) (by omega))
 rw [he] at HS
 have HT := Lib.hid (fun w h => rTable_any W H a n c bs w h h1 h2 hn)
 have HI := Lib.hid hi
 have hNl : W + H ≤ 128 := by omega
 clear hi he hn hn4
 generalize hN : W + H = N at *
 have HN := Lib.hid hN
 generalize abM W H bs = ab at *
 clear hN h1 h2
 go_enter Tryz.func20, Tryz.ntmps20
 (go_wp2_with fail; refine (HS.out _).mono ?_; rintro r w1 ⟨rfl, hb⟩; obtain ⟨E, d, rfl⟩ := bExt hb; clear hb)
 go_wp2_with fail
 refine (HT.out _ (HI.out.below blw)).mono ?_
 rintro r w1 ⟨rb, rfl, hti, hb⟩
 have hB0 : Below w.heap.size w w1 := (show Below w.heap.size w (extW (w.alloc (.cells #[.int .i64 (W), .int .i64 (H), .slice a n c] 25)) E d) from blw).trans (hb.mono (by simp; omega))
 have HB0 := Lib.hid hB0
 have HTI := Lib.hid hti
 clear hti hb hB0 HI HT HS
 go_wp2_with fail
 go_loopw [18] (fun i wr => ∃ s : Nat, s ≤ N ∧ i = .int .i64 s ∧ Below w1.heap.size w1 wr ∧ Hid (∀ x, x < s → ¬ Cl.cnt N (fun a => wp ab N a x) < N)) (fun i _ => N - (intOf i).toNat)
 case atStart => exact ⟨0, Nat.zero_le _, rfl, Below.refl _ _, Lib.hid (by omega)⟩
 case round =>
  obtain ⟨s, hs, rfl, hbel, HM⟩ := hrel
  by_cases hsN : s < N
  ·have HB := Lib.hid hbel
   clear hbel
   obtain ⟨wo, rfl⟩ : ∃ wo : World, wo = wr := ⟨_, rfl⟩
   go_wp2_with fail
   go_loopw [23, 7] (fun i v wq => ∃ k : Nat, k ≤ N ∧ i = .int .i64 k ∧ wq.ownsRow wo.heap.size 3 1 v ((List.range k).filter (fun a => wp ab N a s)).length (natV ((List.range k).filter (fun a => wp ab N a s))) ∧ Below wo.heap.size wo wq) (fun i _ _ => N - (intOf i).toNat)
   case atStart => exact ⟨0, Nat.zero_le _, rfl, World.ownsRow_nil _ _ _ _, Below.refl _ _⟩
   case round =>
    obtain ⟨k, hk, rfl, hown, hbq⟩ := hrel
    have hkl := cnt_le k (fun a => wp ab N a s)
    unfold Cl.cnt at hkl
    have HBA := Lib.hid (HB.out.trans (hbq.mono HB.out.size))
    by_cases hkN : k < N
    ·obtain ⟨g, cg, e1, lg, e2, lr⟩ := (HTI.out.below HBA.out).at hkN hsN
     have HF := Lib.hid (filter_snoc k (fun a => wp ab N a s))
     have HO := Lib.hid hown
     have HBQ := Lib.hid hbq
     have hsz := hbq.size
     have i0 : (0 : Int) ≤ (k : Int) := by omega
     have i1 : (k : Int) < (N : Int) := by omega
     have i2 : (0 : Int) ≤ (s : Int) := by omega
     have i3 : (s : Int) < (N : Int) := by omega
     clear hown hbq
     generalize (List.range k).filter (fun a => wp ab N a s) = L at *
     cases hf : wp ab N k s with
     | false =>
      rw [hf] at e2
      have HFk := Lib.hid hf
      clear hf
      go_wp2
      go_roundw
      case rel => exact ⟨k + 1, by omega, by go_num, by rw [HF.out, HFk.out]; simpa using HO.out, HBQ.out⟩
      case measure => simp [intOf]; omega
     | true =>
      rw [hf] at e2
      have HFk := Lib.hid hf
      clear hf
      go_wp2_with (at_builtin; refine wpApp okInts' rfl (.tmp 33) (.tmp 35) rfl wo.heap.size _ _ _ #[.int .i64 k] rfl HO.out rfl rfl ?_ (by omega) (by omega) hsz ?_)
      ·simp [Value.oneCell']
      intro v' w2 hown2 hb2
      have HB2 := Lib.hid (HBQ.out.trans hb2)
      have HO2 := Lib.hid hown2
      clear hown2 hb2 e1 e2
      go_wp2
      go_roundw
      case rel => exact ⟨k + 1, by omega, by go_num, by rw [HF.out, HFk.out]; simp only [if_true]; rw [natV_snoc, List.length_append]; exact HO2.out, HB2.out⟩
      case measure => simp [intOf]; omega
    ·obtain rfl : N = k := by omega
     obtain ⟨A, cp, rfl⟩ := own_form hown
     have HO := Lib.hid hown
     clear hown hbq
     by_cases hlt : ((List.range N).filter (fun a => wp ab N a s)).length < N
     ·have HL := Lib.hid (lift_some hsN hlt HM.out)
      have hd : decide (((List.range N).filter (fun a => wp ab N a s)).length < N) = true := by simpa using hlt
      generalize hLL : (List.range N).filter (fun a => wp ab N a s) = L at *
      clear hLL
      go_wp2
      go_ret2
      obtain ⟨A', c', e, hI⟩ := IsInts.of_owns (zs := natI L) (n := L.length) (by simp [natI]) (by rw [natI_map]; exact HO.out)
      injection e with e1 _ e3
      subst e1
      unfold LiftPost
      rw [HL.out]
      exact ⟨A, cp, rfl, hI, HB0.out.trans (HBA.out.mono HB0.out.size), fun b o e => by
       have q1 := (HO.out.lt b (by rw [e]; rfl)).1
       have q2 := HB.out.size
       have q3 := HB0.out.size
       omega⟩
     ·have HN1 : Hid (∀ x, x < s + 1 → ¬ Cl.cnt N (fun a => wp ab N a x) < N) := Lib.hid (by
       intro x hx
       by_cases e : x = s
       ·subst e; exact hlt
       ·exact HM.out x (by omega))
      have hd : decide (((List.range N).filter (fun a => wp ab N a s)).length < N) = false := by simpa using hlt
      generalize (List.range N).filter (fun a => wp ab N a s) = L at *
      go_wp2
      go_roundw
      case rel => exact ⟨s + 1, by omega, by go_num, HBA.out, HN1⟩
      case measure => simp [intOf]; omega
  ·obtain rfl : N = s := by omega
   have HL := Lib.hid (lift_none HM.out)
   have HB := Lib.hid hbel
   clear hbel
   go_wp2
   go_ret2
   unfold LiftPost
   rw [HL.out]
   exact ⟨none, 0, rfl, ⟨rfl, fun h => by simp at h⟩, HB0.out.trans (HB.out.mono HB0.out.size), fun b o e => by cases e⟩
end
section
open Go.RowKit
open Lo
theorem extW_me (W : World) : W = extW W #[] W.drawn := by rw [extW_self]
def mx2 (a b : Nat) : Nat := max a b
theorem crun_is {f : Nat → Bool} {x k : Nat} (hk : k ≤ 65) (h1 : ∀ j, j < k → f (x + j) = true) (h2 : k = 65 ∨ f (x + k) = false) : crun f x 65 = k := by
 apply Nat.le_antisymm
 ·rcases h2 with rfl | h2
  ·exact crun_le f 65 x
  ·apply Nat.le_of_not_lt
   intro h3
   rw [crun_all h3] at h2
   cases h2
 ·exact crun_ge hk h1
set_option maxRecDepth 100000 in
set_option maxHeartbeats 8000000 in
theorem rRun_ok (W H n : Nat) (hn : n = W * H) (a : Option Addr) (c : Nat) (bs : List Bool) (y x : Nat) (of : Bool) (w : World) (hI : IsBools w a n bs) (hW : W ≤ 64) (hH : H ≤ 64) (hy : y < H) (hx : x < W) :
  Calls Tryz.prog 96 #[.agg #[.int .i64 (W), .int .i64 (H), .slice a n c], .int .i64 (y), .int .i64 (x), .bool of] w fun e w' => e = .returned (.int .i64 (crun (rf of W bs y) x 65)) ∧ Below w.heap.size w w' := by
 have hn4 : n ≤ 4096 := by rw [hn]; exact mul64n hW hH
 have HBIT := Lib.hid (fun w x p h1 h2 h3 (h4 : x ≤ 64) => rBit_ok W H n a c bs w h1 y x p h2 h3 hn4 (by omega) (by omega) (by omega))
 have HN := Lib.hid hn
 have HI := Lib.hid hI
 clear hI hn
 go_enter Tryz.func96, Tryz.ntmps96
 go_wp2_with fail
 go_loopw [9] (fun i wr => ∃ (k : Nat) (E : Array Obj) (d : Nat), k ≤ 65 ∧ i = .int .i64 k ∧ (∀ j, j < k → rf of W bs y (x + j) = true) ∧ wr = extW (w.alloc (.cells #[.int .i64 (W), .int .i64 (H), .slice a n c] 25)) E d) (fun i _ => 65 - (intOf i).toNat)
 case atStart => exact ⟨0, #[], (w.alloc (.cells #[.int .i64 (W), .int .i64 (H), .slice a n c] 25)).drawn, by omega, rfl, fun j h => absurd h (by omega), extW_me _⟩
 case round =>
  obtain ⟨k, E, d, hk, rfl, hrun, rfl⟩ := hrel
  have HRUN := Lib.hid hrun
  clear hrun
  by_cases hk65 : k < 65
  ·obtain ⟨t, ht⟩ : ∃ t, x + k = t := ⟨_, rfl⟩
   have hadd : (x : Int) + (k : Int) = (t : Int) := by omega
   obtain ⟨r, hr⟩ : ∃ r, t % W = r := ⟨_, rfl⟩
   have hrW : r < W := by rw [← hr]; exact Nat.mod_lt _ (by omega)
   have hrem : (t : Int).tmod (W : Int) = (r : Int) := by rw [← hr]; rfl
   obtain ⟨p, hp⟩ : ∃ p, y * W + r = p := ⟨_, rfl⟩
   have hlt : p < n := by rw [HN.out, ← hp]; exact place_lt' hrW hy
   have HBC := Lib.hid (fun wq h => HBIT.out wq r p h hp hlt (by omega))
   obtain ⟨tt, htt⟩ : ∃ tt, rf of W bs y (x + k) = tt := ⟨_, rfl⟩
   have hbo : (bs.getD p false == of) = tt := by rw [← htt]; unfold rf; rw [ht, hr, hp]; rfl
   have HTT := Lib.hid htt
   have v1 : IntKind.i64.wrap (t : Int) = (t : Int) := IntWalk.i64_in _ (by omega)
   have v2 : IntKind.i64.wrap (r : Int) = (r : Int) := IntWalk.i64_in _ (by omega)
   have hN0 : ((W : Int) == 0) = false := by simp; omega
   have hN1 : (W : Int) ≠ 0 := by omega
   have hN3 : ¬ W = 0 := by omega
   have hd : decide ((k : Int) < 65) = true := by simp; omega
   have HTX := Lib.hid ht
   generalize bs.getD p false = bit at *
   clear htt ht hr hp
   go_wp2_with fail
   (refine wp_region_ext (by kernel_rfl) (by kernel_rfl) ?_; (repeat (first | ((with_reducible refine ext_step (fun K hK => ?_)); go_simp; first | (refine hK _ ?_; clear hK K) | (apply Exists.intro; refine ⟨fun _ _ => ?_, hK _ ?_⟩; (go_at_call 55; exact extOf (HBC.out _ (HI.out.below blw))); clear hK K)))); refine wpQuiet_nil ?_; intro E d)
   cases tt with
   | true =>
    go_wp2
    go_roundw
    case rel => exact ⟨k + 1, _, _, by omega, by go_num, fun j hj => by
     rcases Nat.lt_or_ge j k with h | h
     ·exact HRUN.out j h
     ·obtain rfl : j = k := by omega
      exact HTT.out, by simp only [extW_extW]; rfl⟩
    case measure => simp [intOf]; omega
   | false =>
    go_wp2
    go_ret
    exact ⟨by rw [crun_is hk HRUN.out (.inr HTT.out)]; rfl, blw⟩
  ·obtain rfl : k = 65 := by omega
   go_wp2_with fail
   (refine wp_region_ext (by kernel_rfl) (by kernel_rfl) ?_; (repeat (first | ((with_reducible refine ext_step (fun K hK => ?_)); go_simp; first | (refine hK _ ?_; clear hK K) | (apply Exists.intro; refine ⟨fun _ _ => ?_, hK _ ?_⟩; fail; clear hK K)))); refine wpQuiet_nil ?_; intro E d)
   go_wp2
   go_ret
   exact ⟨by rw [crun_is (by omega) HRUN.out (.inl rfl)]; rfl, blw⟩
set_option maxRecDepth 100000 in
set_option maxHeartbeats 8000000 in
theorem rLongest_ok (W H n : Nat) (hn : n = W * H) (a : Option Addr) (c : Nat) (bs : List Bool) (of : Bool) (w : World) (hI : IsBools w a n bs) (hW : W ≤ 64) (hH : H ≤ 64) :
  Calls Tryz.prog 58 #[.agg #[.int .i64 (W), .int .i64 (H), .slice a n c], .bool of] w fun e w' => e = .returned (.int .i64 (longV of W H bs)) ∧ Below w.heap.size w w' := by
 have HRUN := Lib.hid (fun w y x h hy hx => rRun_ok W H n hn a c bs y x of w h hW hH hy hx)
 have HI := Lib.hid hI
 have hg65 : ∀ x, crun (rf of W bs x) x 65 ≤ 65 := fun x => crun_le _ _ _
 have hB1 : Hid (∀ y x, crun (rf of W bs y) x 65 ≤ 65) := Lib.hid fun y x => crun_le _ _ _
 have hB2 : Hid (∀ y, mxTo (rowG of W bs) y ≤ 65) := Lib.hid fun y => mxTo_le fun i _ => mxTo_le fun x _ => crun_le _ _ _
 clear hI hn hg65
 go_enter Tryz.func58, Tryz.ntmps58
 go_wp2_with fail
 go_loopw [5, 6] (fun m i wr => ∃ (y : Nat) (E : Array Obj) (d : Nat), y ≤ H ∧ m = .int .i64 (mxTo (rowG of W bs) y) ∧ i = .int .i64 y ∧ wr = extW (w.alloc (.cells #[.int .i64 (W), .int .i64 (H), .slice a n c] 25)) E d) (fun _ i _ => H - (intOf i).toNat)
 case atStart => exact ⟨0, #[], (w.alloc (.cells #[.int .i64 (W), .int .i64 (H), .slice a n c] 25)).drawn, by omega, rfl, rfl, extW_me _⟩
 case round =>
  obtain ⟨y, E, d, hy, rfl, rfl, rfl⟩ := hrel
  by_cases hyH : y < H
  ·go_wp2_with fail
   go_loopw [5, 7] (fun m i wr => ∃ (x : Nat) (E : Array Obj) (d : Nat), x ≤ W ∧ m = .int .i64 (mx2 (mxTo (rowG of W bs) y) (mxTo (fun x => crun (rf of W bs y) x 65) x)) ∧ i = .int .i64 x ∧ wr = extW (w.alloc (.cells #[.int .i64 (W), .int .i64 (H), .slice a n c] 25)) E d) (fun _ i _ => W - (intOf i).toNat)
   case atStart => exact ⟨0, E, d, by omega, by simp [mxTo, mx2], rfl, rfl⟩
   case round =>
    obtain ⟨x, E, d, hx, rfl, rfl, rfl⟩ := hrel
    have HST : Hid (mx2 (mxTo (rowG of W bs) y) (mxTo (fun x => crun (rf of W bs y) x 65) (x + 1)) = mx2 (mx2 (mxTo (rowG of W bs) y) (mxTo (fun x => crun (rf of W bs y) x 65) x)) (crun (rf of W bs y) x 65)) := Lib.hid (by unfold mx2; rw [mxTo]; omega)
    have HEN : Hid (mxTo (rowG of W bs) (y + 1) = mx2 (mxTo (rowG of W bs) y) (mxTo (fun x => crun (rf of W bs y) x 65) W)) := Lib.hid rfl
    have hm65 : mx2 (mxTo (rowG of W bs) y) (mxTo (fun x => crun (rf of W bs y) x 65) x) ≤ 65 := by
     have h1 := hB2.out y
     have h2 : mxTo (fun x => crun (rf of W bs y) x 65) x ≤ 65 := mxTo_le fun i _ => crun_le _ _ _
     unfold mx2; omega
    by_cases hxW : x < W
    ·have HRC := Lib.hid (fun wq h => HRUN.out wq y x h hyH hxW)
     have hc65 := hB1.out y x
     generalize mx2 (mxTo (rowG of W bs) y) (mxTo (fun x => crun (rf of W bs y) x 65) x) = m at *
     generalize crun (rf of W bs y) x 65 = g at *
     go_wp2_with fail
     refine (HRC.out _ (HI.out.below blw)).mono ?_
     rintro r wx ⟨rfl, hb⟩
     obtain ⟨E2, d2, rfl⟩ := bExt hb
     clear hb
     by_cases hmg : m < g
     ·have hd : decide ((m : Int) < (g : Int)) = true := by simp; omega
      go_wp2
      go_roundw
      case rel => exact ⟨x + 1, _, _, by omega, by rw [HST.out, show mx2 m g = g from Nat.max_eq_right (by omega)], by go_num, by simp only [extW_extW]; rfl⟩
      case measure => simp [intOf]; omega
     ·have hd : decide ((m : Int) < (g : Int)) = false := by simp; omega
      go_wp2
      go_roundw
      case rel => exact ⟨x + 1, _, _, by omega, by rw [HST.out, show mx2 m g = m from Nat.max_eq_left (by omega)], by go_num, by simp only [extW_extW]; rfl⟩
      case measure => simp [intOf]; omega
    ·obtain rfl : W = x := by omega
     rw [← HEN.out] at hm65 ⊢
     obtain ⟨m, hm⟩ : ∃ m, mxTo (rowG of W bs) (y + 1) = m := ⟨_, rfl⟩
     rw [hm] at hm65 ⊢
     have HM := Lib.hid hm
     clear hm
     go_wp2
     go_roundw
     case rel => exact ⟨y + 1, _, _, by omega, by rw [HM.out], by go_num, rfl⟩
     case measure => simp [intOf]; omega
  ·obtain rfl : H = y := by omega
   have h65 := hB2.out H
   have HLV : Hid (longV of W H bs = mxTo (rowG of W bs) H) := Lib.hid rfl
   generalize mxTo (rowG of W bs) H = m at *
   go_wp2
   go_ret
   exact ⟨by rw [HLV.out]; rfl, blw⟩
end
section
open Go.RowKit
open Lo
set_option maxRecDepth 100000 in
set_option maxHeartbeats 8000000 in
theorem rFloats_ok (W H n : Nat) (hn : n = W * H) (a : Option Addr) (c : Nat) (bs : List Bool) (w : World) (hT : OkT w a n c bs) (hW : W ≤ 64) (hH : H ≤ 64) (hW0 : 0 < W) (hH0 : 0 < H) :
  Calls Tryz.prog 21 #[.agg #[.int .i64 (W), .int .i64 (H), .slice a n c]] w fun e w' => e = .returned (.tuple #[.int .i64 (longV true H W (turnL W H bs)), .int .i64 (longV false W H bs), .int .i64 (0)]) ∧ Below w.heap.size w w' := by
 have HT1 := Lib.hid (fun w h => rTurned_ok W H n hn a c bs w h hW hH)
 have HL1 := Lib.hid (fun w A C h => rLongest_ok H W n (by rw [hn, Nat.mul_comm]) A C (turnL W H bs) true w h hH hW)
 have HL2 := Lib.hid (fun w h => rLongest_ok W H n hn a c bs false w h hW hH)
 have HT := Lib.hid hT
 have hn0 : n ≠ 0 := by rw [hn]; have := Nat.mul_pos hW0 hH0; omega
 have hbn : ((n : Int) == 0) = false := by simp; omega
 clear hT hn hn0
 generalize turnL W H bs = tl at *
 generalize longV true H W tl = p1 at *
 generalize longV false W H bs = p2 at *
 go_enter Tryz.func21, Tryz.ntmps21
 go_wp2_with fail
 refine (HT1.out _ (HT.out.below blw)).mono ?_
 rintro r wx ⟨A1, C1, rfl, hT, hb⟩
 obtain ⟨E1, d1, rfl⟩ := bExt hb
 have HX1 := Lib.hid hT
 clear hb hT
 go_wp2_with fail
 (refine wp_region_ext (by kernel_rfl) (by kernel_rfl) ?_; (repeat (first | ((with_reducible refine ext_step (fun K hK => ?_)); go_simp; first | (refine hK _ ?_; clear hK K) | (apply Exists.intro; refine ⟨fun _ _ => ?_, hK _ ?_⟩; fail; clear hK K)))); ((with_reducible refine ext_step (fun K hK => ?_)); go_simp; (apply Exists.intro; refine ⟨fun _ _ => ?_, hK _ ?_⟩; (go_at_call 58; exact extOf (HL1.out _ _ _ (HX1.out.below blw).bits)); clear hK K)); (repeat (first | ((with_reducible refine ext_step (fun K hK => ?_)); go_simp; first | (refine hK _ ?_; clear hK K) | (apply Exists.intro; refine ⟨fun _ _ => ?_, hK _ ?_⟩; fail; clear hK K)))); ((with_reducible refine ext_step (fun K hK => ?_)); go_simp; (apply Exists.intro; refine ⟨fun _ _ => ?_, hK _ ?_⟩; (go_at_call 58; exact extOf (HL2.out _ (HT.out.below blw).bits)); clear hK K)); (repeat (first | ((with_reducible refine ext_step (fun K hK => ?_)); go_simp; first | (refine hK _ ?_; clear hK K) | (apply Exists.intro; refine ⟨fun _ _ => ?_, hK _ ?_⟩; fail; clear hK K)))); refine wpQuiet_nil ?_; intro E d)
 go_wp2
 refine bodyPost_ret (v := .tuple #[.int .i64 (p1), .int .i64 (p2), .int .i64 (0)]) (by simp [results, Tryz.results21, go_sem]) rfl ⟨rfl, blw⟩
end
section
open Go.RowKit
def bytesOf (s : ByteArray) : List Nat := s.data.toList.map UInt8.toNat
end
section
open Go.RowKit
def B8Post (L : List Nat) (w : World) (r : Ending) (w' : World) : Prop := ∃ A C, r = .returned (.slice A L.length C) ∧ IsB8 w' A L.length L ∧ (A = none → C = 0) ∧ Below w.heap.size w w' ∧ (∀ b o, A = some ⟨b, o, none⟩ → w.heap.size ≤ b)
def part (f : Nat → Bool) (j : Nat) : Nat → Nat
 | 0 => 0
 | t + 1 => 2 * part f j t + (f (8 * j + t)).toNat
theorem part8 (f : Nat → Bool) (j : Nat) : part f j 8 = byt f j := by
 simp only [part, byt, Nat.add_zero]
 omega
theorem part_le (f : Nat → Bool) (j : Nat) : ∀ t, part f j t < 2 ^ t := by
 intro t
 induction t with
 | zero => simp [part]
 | succ t ih =>
  have := toNat_le (f (8 * j + t))
  rw [part, Nat.pow_succ]
  omega
theorem part_le8 (f : Nat → Bool) (j t : Nat) (h : t ≤ 8) : part f j t < 256 :=
 Nat.lt_of_lt_of_le (part_le f j t) (by
  have : 2 ^ t ≤ 2 ^ 8 := Nat.pow_le_pow_right (by omega) h
  simpa using this)
theorem punch_take {r : List Bool} {j : Nat} (h : j < (r.length + 7) / 8) : (punchL r).take (j + 1) = (punchL r).take j ++ [byt (fun i => r.getD i false) j] := by
 rw [List.take_add_one, List.getElem?_eq_getElem (by rw [punchL_len]; exact h)]
 have := punchL_get h
 rw [List.getD_eq_getElem?_getD, List.getElem?_eq_getElem (by rw [punchL_len]; exact h)] at this
 simp only [Option.getD_some] at this
 rw [this]; rfl
theorem owns_b8 {w : World} {base n : Nat} {v : Value} {L : List Nat} (hn : L.length = n) (h : w.ownsRow base 5 1 v n (L.map u8v)) : ∃ a c, v = .slice a n c ∧ IsB8 w a n L ∧ (a = none → c = 0) ∧ ∀ b o, a = some ⟨b, o, none⟩ → base ≤ b := by
 subst hn
 obtain ⟨a, c, rfl, h1, h2⟩ := IsB8.of_owns h
 refine ⟨a, c, rfl, h1, fun e => ?_, h2⟩
 subst e
 rcases h.2 with ⟨e1, _⟩ | ⟨g, cap, cur, e1, _⟩
 ·injection e1
 ·cases e1
theorem rowL_get' {bs : List Bool} {W y i : Nat} (h : i < W) : (rowL bs W y).getD i false = bs.getD (y * W + i) false := by unfold rowL; simp [List.getD, h]
theorem lfCd40 {P : Prop} (h : P := by
 go_wp2_with fail
 refine (HBC.out _ HIx.out).mono ?_
 rintro r w1 ⟨rfl, hb⟩
 obtain ⟨E1, d1, rfl⟩ := bExt hb
 clear hb
 rw [extW_extW]
 go_wp2
 go_roundw
 case rel => exact ⟨t + 1, _, _, by omega, by rw [HPS.out]; go_num, by rw [← HKX.out]; go_num, rfl⟩
 case measure => simp [intOf]; omega) : P := h
set_option maxRecDepth 100000 in
set_option maxHeartbeats 8000000 in
theorem rHoles_any (W H n y : Nat) (a : Option Addr) (c : Nat) (bs : List Bool) (w : World) (hI : IsBools w a n bs) (hW : W ≤ 64) (hy : y < 64) (hyn : (y + 1) * W ≤ n) (hn4 : n ≤ 4096) :
  Calls Tryz.prog 60 #[.agg #[.int .i64 (W), .int .i64 (H), .slice a n c], .int .i64 (y)] w (B8Post (punchL (rowL bs W y)) w) := by
 have HBIT := Lib.hid (fun w x p h1 h2 h3 (h4 : x ≤ 64) => rBit_ok W H n a c bs w h1 y x p h2 h3 hn4 (by omega) (by omega) (by omega))
 have HI := Lib.hid hI
 have HRG : Hid (∀ i, i < W → (rowL bs W y).getD i false = bs.getD (y * W + i) false) := Lib.hid fun i h => rowL_get' h
 have HRL : Hid ((rowL bs W y).length = W) := Lib.hid (rowL_len' bs W y)
 have HYN : Hid (y * W + W ≤ n) := Lib.hid (by rw [Nat.add_mul, Nat.one_mul] at hyn; exact hyn)
 obtain ⟨R, hR⟩ : ∃ R, rowL bs W y = R := ⟨_, rfl⟩
 rw [hR] at HRG HRL ⊢
 have HPT : Hid (∀ j, j < (W + 7) / 8 → (punchL R).take (j + 1) = (punchL R).take j ++ [byt (fun i => R.getD i false) j]) := Lib.hid fun j h => punch_take (by rw [HRL.out]; exact h)
 have HPLL : Hid ((punchL R).length = (W + 7) / 8) := Lib.hid (by rw [punchL_len, HRL.out])
 clear hI hyn hR
 go_enter Tryz.func60, Tryz.ntmps60
 go_wp2_with fail
 have hq1 := tF_alloc w W H (.slice a n c) rfl
 have hb1 : Below w.heap.size w (w.alloc (.cells #[.int .i64 (W), .int .i64 (H), .slice a n c] 25)) := blw
 generalize w.alloc (.cells #[.int .i64 (W), .int .i64 (H), .slice a n c] 25) = W1 at *
 generalize hqe : w.heap.size = q at *
 have HQE := Lib.hid hqe
 obtain ⟨base, hbase⟩ : ∃ b, b = W1.heap.size := ⟨_, rfl⟩
 have hqb : q < base := by rw [hbase]; exact hq1.lt
 have HQ := Lib.hid hq1; have HB1 := Lib.hid hb1; have HBS := Lib.hid hbase
 have hb0 : base ≤ W1.heap.size := by omega
 clear hqe hq1 hb1 hbase
 go_loopw [5, 6] (fun ov xv wr => ∃ (j : Nat) (v : Value), j ≤ (W + 7) / 8 ∧ xv = .int .i64 ((8 * j : Nat)) ∧ ov = v ∧ wr.ownsRow base 5 1 v j (((punchL R).take j).map u8v) ∧ Below base W1 wr) (fun _ xv _ => 64 + W - (intOf xv).toNat)
 case atStart => exact ⟨0, _, by omega, rfl, rfl, World.ownsRow_nil _ _ _ _, Below.refl _ _⟩
 case round =>
  obtain ⟨j, v, hj, rfl, rfl, hown, hbel⟩ := hrel
  obtain ⟨A, cp, rfl⟩ := own_form hown
  have HO := Lib.hid hown; have HB := Lib.hid hbel
  have hs := hbel.size
  have hqr := rowBelow HQ.out hbel hqb
  have q0 : wr.cell? ⟨q, 0, none⟩ = some (.int .i64 (W)) := hqr.cell (i := 0) (by omega)
  have lq : LtW q wr := hqr.lt
  clear hown hbel hqr
  obtain ⟨X, hX⟩ : ∃ X, 8 * j = X := ⟨_, rfl⟩
  have HX := Lib.hid hX
  rw [hX]
  by_cases hjW : X < W
  ·have hj7 : j < (W + 7) / 8 := by omega
   clear hX
   go_wp2_with fail
   obtain ⟨wo, rfl⟩ : ∃ wo : World, wo = wr := ⟨_, rfl⟩
   clear q0
   have HIW := Lib.hid (HI.out.below (by rw [HQE.out]; exact HB1.out.trans (HB.out.mono (by omega)) : Below w.heap.size w wo))
   go_loopw [7, 8] (fun nv kv wr => ∃ (t : Nat) (E : Array Obj) (d : Nat), t ≤ 8 ∧ nv = .int .i64 ((part (fun i => R.getD i false) j t : Nat)) ∧ kv = .int .i64 ((X + t : Nat)) ∧ wr = extW wo E d) (fun _ kv _ => X + 8 - (intOf kv).toNat)
   case atStart => exact ⟨0, _, _, by omega, rfl, by simp, extW_zero _⟩
   case round =>
    obtain ⟨t, E, d, ht, rfl, rfl, rfl⟩ := hrel
    have hqr : Hid ((extW wo E d).rowIs q 25 3 (tF W H (.slice a n c))) := Lib.hid (rowBelow HQ.out (HB.out.trans (bExtW (Below.refl base wo) (by omega))) hqb)
    have q0 : (extW wo E d).cell? ⟨q, 0, none⟩ = some (.int .i64 (W)) := hqr.out.cell (i := 0) (by omega)
    have q1 : (extW wo E d).cell? ⟨q, 1, none⟩ = some (.int .i64 (H)) := hqr.out.cell (i := 1) (by omega)
    have q2 : (extW wo E d).cell? ⟨q, 2, none⟩ = some (.slice a n c) := hqr.out.cell (i := 2) (by omega)
    have lq2 : LtW q (extW wo E d) := hqr.out.lt
    by_cases ht8 : t < 8
    ·have HPS : Hid (part (fun i => R.getD i false) j (t + 1) = 2 * part (fun i => R.getD i false) j t + (R.getD (X + t) false).toNat) := Lib.hid (by rw [← HX.out]; rfl)
     have hpl := part_le8 (fun i => R.getD i false) j (t + 1) (by omega)
     rw [HPS.out] at hpl
     obtain ⟨pv, hpv⟩ : ∃ pv, part (fun i => R.getD i false) j t = pv := ⟨_, rfl⟩
     rw [hpv] at hpl HPS ⊢
     clear hpv
     by_cases hkW : X + t < W
     ·have HRT := Lib.hid (HRG.out (X + t) hkW)
      obtain ⟨p, hp⟩ : ∃ p, y * W + (X + t) = p := ⟨_, rfl⟩
      have hlt : p < n := by have := HYN.out; omega
      obtain ⟨K, hK⟩ : ∃ K, X + t = K := ⟨_, rfl⟩
      have HIx := Lib.hid (HIW.out.below (bExtW (Below.refl _ _) (Nat.le_refl _) : Below wo.heap.size wo (extW wo E d)))
      have HBC := Lib.hid (fun wq h => HBIT.out wq K p h (by rw [← hK]; exact hp) hlt (by omega))
      have HKX := Lib.hid hK
      rw [hp] at HRT
      rw [hK] at HRT HPS hpl hkW ⊢
      have hKX : K < X + 8 := by omega
      clear hp hK
      obtain ⟨bit, hbit⟩ : ∃ bit, bs.getD p false = bit := ⟨_, rfl⟩
      rw [hbit] at HBC HRT
      rw [HRT.out] at hpl HPS
      clear hbit HRT
      cases bit with
      | false =>
       exact lfCd40
      | true =>
       exact lfCd40
     ·have hf : R.getD (X + t) false = false := by
       rw [List.getD_eq_getElem?_getD, List.getElem?_eq_none (by rw [HRL.out]; omega)]; rfl
      rw [hf] at hpl HPS
      obtain ⟨K, hK⟩ : ∃ K, X + t = K := ⟨_, rfl⟩
      have HKX := Lib.hid hK
      rw [hK] at hkW ⊢
      have hKX : K < X + 8 := by omega
      clear hK hf
      go_wp2
      go_roundw
      case rel => exact ⟨t + 1, _, _, by omega, by rw [HPS.out]; go_num, by rw [← HKX.out]; go_num, rfl⟩
      case measure => simp [intOf]; omega
    ·obtain rfl : t = 8 := by omega
     have hpl := part_le8 (fun i => R.getD i false) j 8 (by omega)
     have HPE := Lib.hid (part8 (fun i => R.getD i false) j)
     have HTK := Lib.hid (HPT.out j hj7)
     rw [← HPE.out] at HTK
     obtain ⟨pv, hpv⟩ : ∃ pv, part (fun i => R.getD i false) j 8 = pv := ⟨_, rfl⟩
     rw [hpv] at hpl HTK ⊢
     have v1 : IntKind.u8.wrap (pv : Int) = (pv : Int) := IntWalk.u8_in _ (by omega)
     have hbx : Below base W1 (extW wo E d) := HB.out.trans (bExtW (Below.refl base wo) (by omega))
     have HOx := Lib.hid (ownBelow HO.out (bExtW (Below.refl _ _) (Nat.le_refl _) : Below wo.heap.size wo (extW wo E d)))
     have HBx := Lib.hid hbx
     have hsx := hbx.size
     clear hpv hbx HPE HO HB
     generalize extW wo E d = wx at *
     go_wp2_with (at_builtin; refine wpApp8 rfl (.tmp 36) (.tmp 39) rfl base _ j ((punchL R).take j) [pv] wx.heap.size 0 1 rfl (ownBelow HOx.out (Below.alloc (Below.refl _ _) (Nat.le_refl _) (.cells #[.int .u8 (pv : Int)] 5))) rfl (fun j hj => ?_) (by simp; omega) (by simp; omega) ?_)
     ·have hj2 : j = 0 := by simp at hj; exact hj
      subst hj2
      simp
     intro v' w3 hown3 hb3
     have hb3 : Below base wx w3 := Below.trans (Below.alloc (Below.refl _ _) (by omega) _) hb3
     obtain ⟨A4, cp4, rfl⟩ := own_form hown3
     have HO3 := Lib.hid hown3
     have HB3 := Lib.hid (HBx.out.trans hb3)
     clear hown3 hb3 HOx HBx
     go_wp2
     go_roundw
     case rel => exact ⟨j + 1, _, by omega, by rw [← HX.out]; go_num, rfl, by rw [HTK.out, List.map_append, List.map_take]; exact HO3.out, HB3.out⟩
     case measure => simp [intOf]; omega
  ·have hjj : j = (W + 7) / 8 := by omega
   have HTA : Hid ((punchL R).take j = punchL R) := Lib.hid (List.take_of_length_le (by rw [HPLL.out]; omega))
   have HJ : Hid ((punchL R).length = j) := Lib.hid (by rw [HPLL.out, hjj])
   clear hX hjj
   go_wp2
   go_ret
   unfold B8Post
   rw [HJ.out]
   obtain ⟨a9, c9, e9, h1, h2, h3⟩ := owns_b8 (L := punchL R) HJ.out (by have := HO.out; rwa [HTA.out] at this)
   injection e9 with e1 _ e2
   subst e1 e2
   exact ⟨A, cp, rfl, h1, h2, by rw [HQE.out]; exact HB1.out.trans (HB.out.mono (by omega)), fun b o e => by have := h3 b o e; have := HQE.out; omega⟩
theorem sum_le (l : List Nat) (h : ∀ x ∈ l, x < 256) : l.sum ≤ 255 * l.length := by
 induction l with
 | nil => simp
 | cons x l ih =>
  have h1 := h x (by simp)
  have h2 := ih (fun y hy => h y (by simp [hy]))
  simp only [List.sum_cons, List.length_cons]
  omega
set_option maxRecDepth 100000 in
set_option maxHeartbeats 8000000 in
theorem rCheck_any (a : Option Addr) (n c : Nat) (l : List Nat) (w : World) (hi : IsB8 w a n l) (hn : n ≤ 1000000) (hl : ∀ x ∈ l, x < 256) :
  Calls Tryz.prog 61 #[.slice a n c] w fun e w' => e = .returned (.int .u8 (chk l : Nat)) ∧ Below w.heap.size w w' := by
 have HI := Lib.hid hi; have HL := Lib.hid hi.1; have HB := Lib.hid hl
 clear hi hl
 go_enter Tryz.func61, Tryz.ntmps61
 go_wp2_with fail
 go_loopw [8, 3] (fun i m wr => ∃ k : Nat, k ≤ n ∧ i = .int .i64 k ∧ m = .int .i64 (((l.take k).sum : Nat)) ∧ Below w.heap.size w wr) (fun i _ _ => n - (intOf i).toNat)
 case atStart => exact ⟨0, Nat.zero_le _, rfl, rfl, Below.refl _ _⟩
 case round =>
  obtain ⟨k, hk, rfl, rfl, hbel⟩ := hrel
  have HBL := Lib.hid hbel
  by_cases hkn : k < n
  ·obtain ⟨b, o, rfl, hb, hc⟩ := (HI.out.below hbel).2 (by omega)
   have c0 := hc k hkn
   have lb : LtW b wr := hb
   have hx : l.getD k 0 < 256 := HB.out _ (getD_memN (by rw [HL.out]; exact hkn))
   have HS := Lib.hid (take_sum (l := l) (k := k) (by rw [HL.out]; exact hkn))
   obtain ⟨x, hxe⟩ : ∃ x, l.getD k 0 = x := ⟨_, rfl⟩
   rw [hxe] at c0 hx HS
   have hsl : (l.take k).sum ≤ 255 * k := by
    have h1 := sum_le (l.take k) (fun x hx => HB.out x (List.mem_of_mem_take hx))
    rw [List.length_take, HL.out, Nat.min_eq_left (by omega)] at h1
    exact h1
   obtain ⟨s, hs⟩ : ∃ s, (l.take k).sum = s := ⟨_, rfl⟩
   rw [hs] at HS hsl ⊢
   have v1 : IntKind.i64.wrap (x : Int) = (x : Int) := IntWalk.i64_in _ (by omega)
   clear hc hb hxe hs hbel
   go_wp2
   go_roundw
   case rel => exact ⟨k + 1, by omega, by go_num, by rw [HS.out]; go_num, HBL.out⟩
   case measure => simp [intOf]; omega
  ·obtain rfl : n = k := by omega
   have HT : Hid (l.take n = l) := Lib.hid (List.take_of_length_le (by rw [HL.out]; exact Nat.le_refl _))
   rw [HT.out]
   have hsl : l.sum ≤ 255 * n := by
    have h1 := sum_le l HB.out
    rw [HL.out] at h1
    exact h1
   have HC : Hid (chk l = (256 - l.sum % 256) % 256) := Lib.hid rfl
   obtain ⟨s, hs⟩ : ∃ s, l.sum = s := ⟨_, rfl⟩
   rw [hs] at HC hsl ⊢
   obtain ⟨ck, hck⟩ : ∃ ck, chk l = ck := ⟨_, rfl⟩
   have hckl : ck < 256 := by rw [← hck]; exact chk_lt l
   have HCK := Lib.hid hck
   rw [hck] at HC
   have v1 : (256 - (s : Int) % 256) % 256 = (ck : Int) := by rw [HC.out]; omega
   have v2 : (256 - (s : Int).tmod 256).tmod 256 = (ck : Int) := by
    rw [Int.tmod_eq_emod_of_nonneg (a := (s : Int)) (by omega), Int.tmod_eq_emod_of_nonneg (by omega), v1]
   have v3 : IntKind.u8.wrap (ck : Int) = (ck : Int) := IntWalk.u8_in _ (by omega)
   clear hs hck
   go_wp2
   go_ret
   exact ⟨by rw [HCK.out]; rfl, HBL.out⟩
end
section
open Go.RowKit
end
section
open Go.RowKit
end
section
open Go.RowKit
section
variable {P : Program} {ops : Array Oper} {md : Region.Mode} {Q : Exit → Act → World → Prop}
def lstAB (base : Array Bool) (A B : List Nat) (i j : Nat) : Array Bool := (A.take i ++ B.take j).foldl (fun l k => l.setIfInBounds k true) base
def twoB (md : Region.Mode) (ops : Array Oper) (base : Array Bool) (A B : List Nat) : Bool :=
 (List.range (A.length + 1)).all fun i => (List.range (B.length + 1)).all fun j =>
  ((decide (i = A.length) && decide (j = B.length)) || (Region.ready md ops (lstAB base A B i j)).all fun k => (decide (i < A.length) && decide (A[i]? = some k)) || (decide (j < B.length) && decide (B[j]? = some k))) &&
  ((decide (i = A.length) && decide (j = B.length)) || !(Region.ready md ops (lstAB base A B i j)).isEmpty) &&
  (decide (i = A.length) || decide ((lstAB base A B i j).setIfInBounds (A.getD i 0) true = lstAB base A B (i + 1) j)) &&
  (decide (j = B.length) || decide ((lstAB base A B i j).setIfInBounds (B.getD j 0) true = lstAB base A B i (j + 1)))
end
end
section
open Go.RowKit
section
variable {P : Program} {ops : Array Oper} {Q : Exit → Act → World → Prop} {K : Act → World → Prop} {a : Act} {w : World}
def onNormal (K : Act → World → Prop) (Q : Exit → Act → World → Prop) : Exit → Act → World → Prop
 | .normal => K
 | e => Q e
theorem wpOp_go {i : Nat} {o : Oper} (hi : ops[i]? = some o) (hg : o.guard = none) (h : ∀ K' : Act → World → Prop, (∀ a w, K a w → K' a w) → o.wp P a w K' Q) : wpOp P ops Q i K a w := by
 unfold wpOp
 simp only [hi, Region.wanted, hg, if_true]
 exact .inl (h K fun _ _ h => h)
theorem upon_onNormal {o : Oper} {r : Result Next} (h : o.upon P a K (onNormal K Q) r) : o.upon P a K Q r := by
 cases r with
 | ok n w' =>
  cases n with
  | enter f args => exact Calls.mono h fun e w'' he => by cases e <;> exact he
  | _ => exact h
 | halt x w' => cases x <;> exact h
theorem wpOp_list {i : Nat} {o : Oper} (hi : ops[i]? = some o) (hg : o.guard = none) (h : wpList P ops (onNormal K Q) [o] a w) : wpOp P ops Q i K a w := by
 unfold wpOp
 simp only [hi, Region.wanted, hg, if_true]
 unfold wpList at h
 simp only [Region.wanted, hg, if_true] at h
 rcases h with h | ⟨h1, h2⟩
 ·exact .inl (upon_onNormal h)
 ·exact .inr ⟨h1, h2⟩
end
end
section
open Go.RowKit
section
variable {P : Program} {ops : Array Oper} {md : Region.Mode} {Q : Exit → Act → World → Prop} {S : World → Prop}
structure SameOff (ts : List Nat) (a0 a : Act) : Prop where
 size : a.tmps.size = a0.tmps.size
 off : ∀ k, k ∉ ts → a.tmps[k]? = a0.tmps[k]?
 defers : a.defers = a0.defers
theorem SameOff.refl (ts : List Nat) (a : Act) : SameOff ts a a := ⟨rfl, fun _ _ => rfl, rfl⟩
theorem SameOff.put {ts : List Nat} {a0 a : Act} {t : Nat} (h : SameOff ts a0 a) (ht : t ∈ ts) (v : Value) : SameOff ts a0 (a.put (some t) v) := by
 refine ⟨by simpa [Act.put] using h.size, fun k hk => ?_, h.defers⟩
 have : t ≠ k := fun e => hk (e ▸ ht)
 simp only [Act.put, Array.getElem?_setIfInBounds, this, if_false]
 exact h.off k hk
theorem fold_put (vs : Nat → Value) : ∀ (ts : List Nat) (a0 : Act), (ts.foldl (fun b t => b.put (some t) (vs t)) a0).defers = a0.defers ∧ (ts.foldl (fun b t => b.put (some t) (vs t)) a0).tmps.size = a0.tmps.size ∧
  ∀ k, (ts.foldl (fun b t => b.put (some t) (vs t)) a0).tmps[k]? = if k ∈ ts ∧ k < a0.tmps.size then some (vs k) else a0.tmps[k]?
 | [], a0 => ⟨rfl, rfl, fun k => by simp⟩
 | t :: ts, a0 => by
  obtain ⟨h1, h2, h3⟩ := fold_put vs ts (a0.put (some t) (vs t))
  refine ⟨h1, by rw [List.foldl_cons, h2]; simp [Act.put], fun k => ?_⟩
  rw [List.foldl_cons, h3 k]
  have hs : (a0.put (some t) (vs t)).tmps.size = a0.tmps.size := by simp [Act.put]
  rw [hs]
  by_cases hk : k ∈ ts ∧ k < a0.tmps.size
  ·rw [if_pos hk, if_pos ⟨List.mem_cons_of_mem _ hk.1, hk.2⟩]
  ·rw [if_neg hk]
   simp only [Act.put, Array.getElem?_setIfInBounds]
   by_cases e : t = k
   ·subst e
    by_cases hl : t < a0.tmps.size
    ·simp [hl]
    ·simp [hl]
   ·have : ¬ (k ∈ t :: ts ∧ k < a0.tmps.size) := fun h => hk ⟨(List.mem_cons.1 h.1).resolve_left (fun x => e x.symm), h.2⟩
    rw [if_neg this, if_neg e]
theorem SameOff.form {ts : List Nat} {a0 a : Act} (h : SameOff ts a0 a) : a = ts.foldl (fun b t => b.put (some t) (a.tmps.getD t undef)) a0 := by
 obtain ⟨h1, h2, h3⟩ := fold_put (fun t => a.tmps.getD t undef) ts a0
 have e1 : a.tmps = (ts.foldl (fun b t => b.put (some t) (a.tmps.getD t undef)) a0).tmps := by
  apply Array.ext_getElem?
  intro k
  rw [h3 k]
  by_cases hk : k ∈ ts
  ·by_cases hl : k < a0.tmps.size
   ·rw [if_pos ⟨hk, hl⟩]
    have : k < a.tmps.size := by rw [h.size]; exact hl
    simp [Array.getD, this]
   ·rw [if_neg fun x => hl x.2, Array.getElem?_eq_none (by rw [h.size]; omega), Array.getElem?_eq_none (by omega)]
  ·rw [if_neg fun x => hk x.1]; exact h.off k hk
 generalize ts.foldl (fun b t => b.put (some t) (a.tmps.getD t undef)) a0 = b at *
 cases a; cases b
 simp only [Act.mk.injEq] at *
 exact ⟨e1, by rw [h1]; exact h.defers⟩
theorem put_at {a : Act} {t : Nat} {v : Value} (h : t < a.tmps.size) : (a.put (some t) v).tmps.getD t undef = v := by
 simp [Act.put, Array.getD, h]
theorem put_off {a : Act} {t u : Nat} {v : Value} (h : t ≠ u) : (a.put (some t) v).tmps.getD u undef = a.tmps.getD u undef := by
 simp only [Act.put, Array.getD_eq_getD_getElem?, Array.getElem?_setIfInBounds, h, if_false]
theorem anyH_two {listed : Array Bool} {A B : List Nat} {f g : Nat} (hB : twoB md ops listed A B = true) (hf : f = A.length + B.length + g) (ts : List Nat) {a0 : Act} {w0 : World} (R : Nat → Nat → Act → World → Prop)
  (hA : ∀ i j a w, i < A.length → j ≤ B.length → SameOff ts a0 a → S w → R i j a w → wpOp P ops Q (A.getD i 0) (fun a' w' => SameOff ts a0 a' ∧ S w' ∧ R (i + 1) j a' w') a w)
  (hB2 : ∀ i j a w, i ≤ A.length → j < B.length → SameOff ts a0 a → S w → R i j a w → wpOp P ops Q (B.getD j 0) (fun a' w' => SameOff ts a0 a' ∧ S w' ∧ R i (j + 1) a' w') a w)
  (hS : S w0) (h0 : R 0 0 a0 w0) (hend : ∀ a w, SameOff ts a0 a → S w → R A.length B.length a w → wpAnyH P md ops Q S g (lstAB listed A B A.length B.length) a w) : wpAnyH P md ops Q S f listed a0 w0 := by
 have key : ∀ (n i j : Nat) (a : Act) (w : World), (A.length - i) + (B.length - j) = n → i ≤ A.length → j ≤ B.length → SameOff ts a0 a → S w → R i j a w → wpAnyH P md ops Q S (n + g) (lstAB listed A B i j) a w := by
  intro n
  induction n with
  | zero =>
   intro i j a w hf hi hj hs hw h
   obtain rfl : i = A.length := by omega
   obtain rfl : j = B.length := by omega
   rw [Nat.zero_add]
   exact hend a w hs hw h
  | succ n ih =>
   intro i j a w hf hi hj hs hw h
   unfold twoB at hB
   have h1 := List.all_eq_true.1 (List.all_eq_true.1 hB i (List.mem_range.2 (by omega))) j (List.mem_range.2 (by omega))
   simp only [Bool.and_eq_true, Bool.or_eq_true, decide_eq_true_eq] at h1
   obtain ⟨⟨⟨c1, c2⟩, c3⟩, c4⟩ := h1
   have hne : ¬ (i = A.length ∧ j = B.length) := by omega
   have c1' := List.all_eq_true.1 (c1.resolve_left hne)
   have c2' := c2.resolve_left hne
   rw [show n + 1 + g = (n + g) + 1 by omega]
   refine ⟨fun h0 => by rw [h0] at c2'; simp at c2', fun k hk => ?_⟩
   have hk2 := c1' k hk
   simp only [Bool.and_eq_true, Bool.or_eq_true, decide_eq_true_eq] at hk2
   rcases hk2 with ⟨hlt, e⟩ | ⟨hlt, e⟩
   ·have hg : A.getD i 0 = k := by rw [List.getD_eq_getElem?_getD, e]; rfl
    have c3' := c3.resolve_left (by omega)
    rw [hg] at c3'
    have h2 := hA i j a w hlt hj hs hw h
    rw [hg] at h2
    refine wpOp_mono (fun a' w' h' => ⟨h'.2.1, ?_⟩) h2
    rw [c3']
    exact ih (i + 1) j a' w' (by omega) (by omega) hj h'.1 h'.2.1 h'.2.2
   ·have hg : B.getD j 0 = k := by rw [List.getD_eq_getElem?_getD, e]; rfl
    have c4' := c4.resolve_left (by omega)
    rw [hg] at c4'
    have h2 := hB2 i j a w hi hlt hs hw h
    rw [hg] at h2
    refine wpOp_mono (fun a' w' h' => ⟨h'.2.1, ?_⟩) h2
    rw [c4']
    exact ih i (j + 1) a' w' (by omega) hi (by omega) h'.1 h'.2.1 h'.2.2
 have e0 : lstAB listed A B 0 0 = listed := by simp [lstAB]
 have := key (A.length + B.length) 0 0 a0 w0 (by omega) (by omega) (by omega) (SameOff.refl _ _) hS h0
 rw [e0] at this
 rw [hf]
 exact this
end
end
section
open Go.RowKit
section
variable {P : Program} {ops : Array Oper} {md : Region.Mode} {Q : Exit → Act → World → Prop} {S : World → Prop}
theorem wp_region_HS (S : World → Prop) {id : Nat} {a : Act} {W : World} (hm : P.follows .mixedOrders = true) (h : wpAnyH P .any ops Q S ops.size (Array.replicate ops.size false) a W.drew) : (Code.region id ops true).wp P Q a W :=
 wp_region_any hm (wpAny_of_held _ _ _ _ h)
theorem SameOff.get {ts : List Nat} {a0 a : Act} (h : SameOff ts a0 a) {k : Nat} (hk : k ∉ ts) : a.tmps.getD k undef = a0.tmps.getD k undef := by
 rw [Array.getD_eq_getD_getElem?, Array.getD_eq_getD_getElem?, h.off k hk]
theorem anyH_takeS {i : Nat} {o : Oper} {f : Nat} {listed : Array Bool} {a : Act} {w : World} (hi : ops[i]? = some o)
  (hf : (Region.noSelect ops && Region.free md ops listed i && (Region.ready md ops listed).contains i) = true)
  (hQ : ∀ v c a w, Q (.panic c) (a.put o.dst v) w → Q (.panic c) a w) (hS : S w)
  (h : ∀ K : Act → Prop, (∀ a, wpAnyH P md ops Q S f (listed.setIfInBounds i true) a w → K a) →
   if Region.wanted o (yielded ops a.tmps) then ∃ v, (∀ w, S w → (execOp a.eval o).run P w = .ok (.value v) w) ∧ K (a.put o.dst v) else K (a.put o.dst undef)) : wpAnyH P md ops Q S (f + 1) listed a w := by
 simp only [Bool.and_eq_true] at hf
 obtain ⟨⟨h1, h2⟩, h3⟩ := hf
 have h4 := h _ fun _ h => h
 by_cases hw : Region.wanted o (yielded ops a.tmps) = true
 ·rw [if_pos hw] at h4
  obtain ⟨v, hv, h5⟩ := h4
  exact wpAnyH_take hi h1 h2 h3 (hQ v) (.inl ⟨hw, hv⟩) hS h5
 ·rw [if_neg hw] at h4
  exact wpAnyH_take hi h1 h2 h3 (hQ undef) (.inr ⟨by simpa using hw, rfl⟩) hS h4
theorem anyH_one {i : Nat} {f : Nat} {listed : Array Bool} {a : Act} {w : World} (hr : Region.ready md ops listed = [i])
  (h : wpOp P ops Q i (fun a' w' => S w' ∧ wpAnyH P md ops Q S f (listed.setIfInBounds i true) a' w') a w) : wpAnyH P md ops Q S (f + 1) listed a w :=
 wpAnyH_all hr (by simp) fun j hj => by
  obtain rfl : j = i := by simpa using hj
  exact h
end
theorem app_opG {t e bytes : Nat} {z : Value} (hE : ElemOk t e 1 bytes z) {w : World} {base : Nat} {ops : Array Oper} {i : Nat} {o : Oper} {a : Act} {Q : Exit → Act → World → Prop} {K : Act → World → Prop} (hi : ops[i]? = some o) (hg : o.guard = none) (s x : Operand) (ho : o.op = .call { callee := .builtin .append, args := #[s, x], argTypes := #[t, t] }) (T : Nat) (hd : o.dst = some T)
  (n : Nat) (xs news : List Value) (A : Option Addr) (m c : Nat) (hown : w.ownsRow base e 1 (a.eval s) n xs) (hx : a.eval x = .slice A m c) (hc : A = none → c = 0) (hl : news.length = m)
  (hI : 0 < m → ∃ b of, A = some ⟨b, of, none⟩ ∧ ∀ j u, news[j]? = some u → w.cell? ⟨b, of + j, none⟩ = some u) (h1 : ∀ u ∈ news, u.oneCell' = true) (hb : bytes ≤ 4096) (hn : n + m ≤ 1000000000) (hbase : base ≤ w.heap.size)
  (h : ∀ v' w', w'.ownsRow base e 1 v' (n + m) (xs ++ news) → w.grownBy w' (a.eval s).ownBlock → (v'.ownBlock = (a.eval s).ownBlock ∨ v'.ownBlock = some w.heap.size) → Below base w w' → K (a.put (some T) v') w') : wpOp Tryz.prog ops Q i K a w :=
 wpOp_list hi hg (wpAppV hE hg s x ho base _ n xs A m c news rfl hown hx hc hl hI h1 hb hn hbase fun v' w' h2 h3 h4 => hd.symm ▸ h v' w' h2 h3 h4 (belowGrown h3 hbase fun k hk => (hown.lt k hk).1))
end
end Go.Proofs.YtajdoobkfbdgoaaGreatDoor
