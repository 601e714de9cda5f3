/- Lemmas and contracts of functions (what each call returns, and that it changes nothing that was there) that the proof of a law of this seat uses; each lemma states its own conditions. -/
import Derived.Test.YtikddfjickkhhaaCl1
import Derived.Test.YtikddfjickkhhaaNat
namespace Go.Proofs.Ytikddfjickkhhaa
open Go.RowKit
set_option linter.unusedVariables false
set_option linter.unusedSimpArgs false
open Cl
def cellBool (w : World) (b o : Nat) : Bool := match w.cell? ⟨b, o, none⟩ with | some (.bool x) => x | _ => false
theorem cellBool_row {w : World} {g t n : Nat} {f : Nat → Bool} (h : w.rowIs g t n (fun a => .bool (f a))) {a : Nat} (ha : a < n) : cellBool w g a = f a := by unfold cellBool; rw [h.cell ha]
def sliceLen : Value → Nat
  | .slice _ n _ => n
  | _ => 0
theorem cnt_congr {n : Nat} {f g : Nat → Bool} (h : ∀ a, a < n → f a = g a) : cnt n f = cnt n g := by
  unfold cnt
  congr 1
  apply List.filter_congr
  intro x hx
  exact h x (by simpa using hx)
/-- What is left to do, read off memory. -/
def leftW (n g : Nat) (v : Value) (w : World) : Nat := 2 * (n - cnt n (cellBool w g)) + sliceLen v
theorem leftW_eq {w : World} {g t n : Nat} {f : Nat → Bool} {A : Option Addr} {k c : Nat} {todo : List Nat} (h : w.rowIs g t n (fun a => .bool (f a))) (hk : todo.length = k) : leftW n g (.slice A k c) w = left n f todo := by
  unfold leftW left
  rw [cnt_congr fun a ha => cellBool_row h ha, hk]
  rfl
set_option maxRecDepth 100000 in
set_option maxHeartbeats 8000000 in
theorem over_any (tb W H : Nat) (a : Option Addr) (n c : Nat) (bs : List Bool) (w : World) (h : IsCloth w tb W H a n c bs) (h1 : W ≤ 64) (h2 : H ≤ 64) (hn : n = W * H) (s : Nat) (hs : s < W + H) :
    Calls Try.prog 59 #[webV tb W (W+H), .int .i64 (s)] w fun e w' => e = .returned (.slice (some ⟨w.heap.size+1, 0, none⟩) (W+H) (W+H)) ∧ w'.rowIs (w.heap.size+1) 4 (W+H) (fun a => .bool (wp (abM W H bs) (W+H) a s)) ∧ Below w.heap.size w w' := by
  have HA := Lib.hid (fun (w' : World) (hC : IsCloth w' tb W H a n c bs) (i j : Nat) (hi : i < W+H) (hj : j < W+H) => above_any tb W H a n c bs w' hC h1 h2 hn i j hi hj)
  have HW : Hid (∀ a, wp (abM W H bs) (W+H) a s = up (abM W H bs) s a) := Lib.hid fun a => wp_iff (abM_bnd W H bs) a s
  have HBd := Lib.hid (abM_bnd W H bs)
  have HC := Lib.hid h
  unfold webV
  have hNl : W + H ≤ 128 := by omega
  clear h hn
  generalize hN : W + H = N at *
  have hN' := Lib.hid hN
  generalize abM W H bs = ab at *
  clear hN h1 h2
  have hmk := makeRow okBools rfl N (by omega) (by omega)
  have hcs : (madeCells #[Value.bool false] N)[s]? = some (.bool false) := by
    have := (World.rowIs_made w (.bool false) N 4).cell hs
    simpa [World.cell?_alloc_new] using this
  go_enter Try.func59, Try.ntmps59
  go_wp2_with fail
  obtain ⟨g, hg⟩ : ∃ g, g = w.heap.size + 1 := ⟨_, rfl⟩
  have hrow : (((w.alloc (.cells #[.int .i64 (W), .int .i64 (N), .func (.func 81) #[] #[.pointer (some ⟨tb, 0, none⟩)]] 67)).alloc (.cells ((madeCells #[Value.bool false] N).setIfInBounds s (.bool true)) 4)).alloc (.cells #[.int .i64 (s)] 3)).rowIs g 4 N (fun x => .bool (if x = s then true else false)) := by
    have h1 := (World.rowIs_made (w.alloc (.cells #[.int .i64 (W), .int .i64 (N), .func (.func 81) #[] #[.pointer (some ⟨tb, 0, none⟩)]] 67)) (.bool false) N 4).set s (.bool true)
    rw [World.setCell_alloc_new, World.size_alloc, ← hg] at h1
    exact (h1.congr (g := fun x => Value.bool (if x = s then true else false)) (fun i hi => by by_cases e : i = s <;> simp [e])).alloc (.cells #[.int .i64 (s)] 3)
  have hown : (((w.alloc (.cells #[.int .i64 (W), .int .i64 (N), .func (.func 81) #[] #[.pointer (some ⟨tb, 0, none⟩)]] 67)).alloc (.cells ((madeCells #[Value.bool false] N).setIfInBounds s (.bool true)) 4)).alloc (.cells #[.int .i64 (s)] 3)).ownsRow (g+1) 3 1 (.slice (some ⟨g + 1, 0, none⟩) 1 1) [s].length (natV [s]) := by
    have h1 := World.ownsRow_lit (base := g+1) (e := 3) (size := 1) ((w.alloc (.cells #[.int .i64 (W), .int .i64 (N), .func (.func 81) #[] #[.pointer (some ⟨tb, 0, none⟩)]] 67)).alloc (.cells ((madeCells #[Value.bool false] N).setIfInBounds s (.bool true)) 4)) #[.int .i64 (s)] 1 (by simp [hg]) (by decide) rfl
    rw [World.size_alloc, World.size_alloc, ← hg] at h1
    exact h1
  have hB0 : Below w.heap.size w (((w.alloc (.cells #[.int .i64 (W), .int .i64 (N), .func (.func 81) #[] #[.pointer (some ⟨tb, 0, none⟩)]] 67)).alloc (.cells ((madeCells #[Value.bool false] N).setIfInBounds s (.bool true)) 4)).alloc (.cells #[.int .i64 (s)] 3)) := (by repeat (first | exact Below.refl _ _ | refine Below.drew ?_ | refine below_drewN ?_ _ | refine Below.alloc ?_ (by first | exact Nat.le_refl _ | (simp; done) | (simp; omega) | omega) _ | refine Below.setCell ?_ (by first | exact Nat.le_refl _ | (simp; done) | (simp; omega) | omega) _ | refine bExtW ?_ (by first | exact Nat.le_refl _ | (simp; done) | (simp; omega) | omega) | refine Below.trans ?_ (Below.mono (by assumption) (by first | exact Nat.le_refl _ | (simp; done) | (simp; omega) | omega))))
  have hw1 : (((w.alloc (.cells #[.int .i64 (W), .int .i64 (N), .func (.func 81) #[] #[.pointer (some ⟨tb, 0, none⟩)]] 67)).alloc (.cells ((madeCells #[Value.bool false] N).setIfInBounds s (.bool true)) 4)).alloc (.cells #[.int .i64 (s)] 3)).cell? ⟨w.heap.size, 1, none⟩ = some (.int .i64 (N)) := by simp [go_sem]
  have hw2 : (((w.alloc (.cells #[.int .i64 (W), .int .i64 (N), .func (.func 81) #[] #[.pointer (some ⟨tb, 0, none⟩)]] 67)).alloc (.cells ((madeCells #[Value.bool false] N).setIfInBounds s (.bool true)) 4)).alloc (.cells #[.int .i64 (s)] 3)).cell? ⟨w.heap.size, 2, none⟩ = some (.func (.func 81) #[] #[.pointer (some ⟨tb, 0, none⟩)]) := by simp [go_sem]
  have hsz : (((w.alloc (.cells #[.int .i64 (W), .int .i64 (N), .func (.func 81) #[] #[.pointer (some ⟨tb, 0, none⟩)]] 67)).alloc (.cells ((madeCells #[Value.bool false] N).setIfInBounds s (.bool true)) 4)).alloc (.cells #[.int .i64 (s)] 3)).heap.size = g + 2 := by simp [hg]
  generalize (((w.alloc (.cells #[.int .i64 (W), .int .i64 (N), .func (.func 81) #[] #[.pointer (some ⟨tb, 0, none⟩)]] 67)).alloc (.cells ((madeCells #[Value.bool false] N).setIfInBounds s (.bool true)) 4)).alloc (.cells #[.int .i64 (s)] 3)) = W0 at *
  rw [← hg]
  have HG := Lib.hid hg
  obtain ⟨q, hq⟩ : ∃ q, q = w.heap.size := ⟨_, rfl⟩
  rw [← hq] at hw1 hw2 ⊢
  have HQ := Lib.hid hq
  have HQG : Hid (g = q + 1) := Lib.hid (by omega)
  have hqg : q < g := by omega
  clear hg hq hcs hmk
  go_loopw [6] (fun v wr => ∃ (todo : List Nat) (inn : Nat → Bool), wr.ownsRow (g+1) 3 1 v todo.length (natV todo) ∧ wr.rowIs g 4 N (fun a => .bool (inn a)) ∧ Below g W0 wr ∧ g + 1 ≤ wr.heap.size ∧ Srch N ab s inn todo N 0 ∧ left N inn todo ≤ 2 * N + 1) (fun v wr => leftW N g v wr)
  case atStart => exact ⟨[s], _, hown, hrow, Below.refl _ _, by omega, Srch.start hs, by simp [left]; omega⟩
  case round =>
    clear hrow hown hsz
    obtain ⟨todo, inn, hown, hrow, hbel, hgl, hS, hle⟩ := hrel
    obtain ⟨A, cp, rfl⟩ := own_form hown
    rcases List.eq_nil_or_concat todo with rfl | ⟨td, b, rfl⟩
    · have HR := Lib.hid hrow
      have HB := Lib.hid hbel
      have HS := Lib.hid hS
      clear hown hrow hbel hS
      simp only [List.length_nil]
      go_wp2
      go_ret
      rw [← HQ.out, ← HQG.out]
      refine ⟨rfl, ?_, ?_⟩
      · skip
        exact HR.out.congr fun i hi => by rw [HS.out.end_ HBd.out, ← HW.out]
      · exact (HQ.out ▸ hB0.trans (HB.out.mono (by have := HQ.out; omega)))
    · rw [List.concat_eq_append] at hown hS ⊢
      have hl0 := leftW_eq (A := A) (c := cp) (todo := td ++ [b]) hrow rfl
      have HLW := Lib.hid hl0
      clear hl0
      simp only [List.length_append, List.length_cons, List.length_nil, Nat.zero_add] at hown ⊢
      rw [natV_snoc] at hown
      obtain ⟨g2, hg2, rfl⟩ : ∃ g2, g + 1 ≤ g2 ∧ A = some ⟨g2, 0, none⟩ := by
        rcases hown.2 with ⟨h, _⟩ | ⟨g', _, _, h, hh, _⟩
        · cases h
        · injection h with h1 _ _; exact ⟨g', hh, h1⟩
      have hcl : wr.cell? ⟨g2, td.length, none⟩ = some (.int .i64 (b)) := by
        rw [hown.cellAt td.length (by omega)]
        simp [natV]
      have hpop := ownsRow_pop (by simp [natV]) hown
      have hbN : b < N := hS.lt b (hS.todo_in b (by simp))
      have hS0 := hS.pop
      have hcap : td.length + 1 ≤ cp := by
        rcases hown.2 with ⟨h, _⟩ | ⟨_, _, _, h, _, _, hh, _⟩
        · cases h
        · injection h with _ _ h3; omega
      have htl : td.length ≤ 2 * N + 1 := by simp [left] at hle; omega
      have HS0 := Lib.hid hS0
      have HO0 := Lib.hid hpop
      have HR0 := Lib.hid hrow
      have HB0 := Lib.hid hbel
      have hw2' : wr.cell? ⟨q, 1, none⟩ = some (.int .i64 (N)) := (hbel.cell (p := ⟨q, 1, none⟩) hqg).trans hw1
      clear hown hpop hS hS0 hrow hbel
      go_wp2_with fail
      have hlp : left N inn td < left N inn (td ++ [b]) := by simp [left]
      go_loopw [33, 6] (fun i v wq => ∃ (k : Nat) (inn' : Nat → Bool) (td' : List Nat), k ≤ N ∧ i = .int .i64 k ∧ wq.ownsRow (g+1) 3 1 v td'.length (natV td') ∧ wq.rowIs g 4 N (fun a => .bool (inn' a)) ∧ Below g W0 wq ∧ g + 1 ≤ wq.heap.size ∧ Srch N ab s inn' td' b k ∧ left N inn' td' ≤ left N inn td) (fun i _ _ => N - (intOf i).toNat)
      case atStart => exact ⟨0, inn, td, Nat.zero_le _, rfl, HO0.out, HR0.out, HB0.out, hgl, HS0.out, Nat.le_refl _⟩
      case round =>
        clear hcl hw2'
        obtain ⟨k, inn', td', hk, rfl, hown, hrow, hbel, hgl', hS, hlf⟩ := hrel
        obtain ⟨A, cp', rfl⟩ := own_form hown
        have htl' : td'.length ≤ 2 * N + 1 := by simp [left] at hle hlf; omega
        by_cases hkN : k < N
        · have c0 := hrow.cell hkN
          have f0 := hrow.frozen k
          have cw : wr.cell? ⟨q, 2, none⟩ = _ := (hbel.cell (p := ⟨q, 2, none⟩) hqg).trans hw2
          cases hik : inn' k with
          | true =>
            rw [hik] at c0
            have HSk := Lib.hid (hS.skip (.inl hik))
            have HO := Lib.hid hown; have HR := Lib.hid hrow; have HB := Lib.hid hbel
            clear hown hrow hbel hS hik f0 cw
            go_wp2
            go_roundw
            case rel => exact ⟨k + 1, inn', td', by omega, by go_num, HO.out, HR.out, HB.out, hgl', HSk.out, hlf⟩
            case measure => simp [intOf]; omega
          | false =>
            rw [hik] at c0
            have hcl : IsCloth wr tb W H a n c bs := HC.out.below (hB0.trans (by have := hbel.mono (B' := w.heap.size) (by have := HQ.out; omega); exact this))
            have HCl := Lib.hid hcl
            have HIK := Lib.hid hik
            have HO := Lib.hid hown; have HR := Lib.hid hrow; have HB := Lib.hid hbel; have HS := Lib.hid hS
            clear hown hrow hbel hS hik hcl
            cases hab : ab k b with
            | false =>
              have HSk := Lib.hid (HS.out.skip (.inr hab))
              have HAB := Lib.hid hab
              clear hab
              go_wp2_with fail
              refine (HA.out _ HCl.out k b hkN hbN).mono ?_
              rintro r w1 ⟨rfl, rfl⟩
              rw [HAB.out]
              go_wp2
              go_roundw
              case rel => exact ⟨k + 1, inn', td', by omega, by go_num, HO.out, HR.out, HB.out, hgl', HSk.out, hlf⟩
              case measure => simp [intOf]; omega
            | true =>
              have HSk := Lib.hid (HS.out.push hkN hbN hab)
              have HAB := Lib.hid hab
              have hlq := left_push (todo := td') hkN HIK.out
              clear hab
              have ho2 := ownsRow_setCell_below HO.out (a := ⟨g, k, none⟩) (by simp) (.bool true)
              have HO2 := Lib.hid ho2
              clear ho2
              go_wp2_with fail
              refine (HA.out _ HCl.out k b hkN hbN).mono ?_
              rintro r w1 ⟨rfl, rfl⟩
              rw [HAB.out]
              go_wp2_with (at_builtin; refine wpApp okInts' rfl (.tmp 51) (.tmp 53) rfl (g+1) _ _ _ #[.int .i64 k] rfl HO2.out (by rw [World.size_setCell]; rfl) rfl ?_ (by omega) (by omega) (by rw [World.size_setCell]; omega) ?_)
              · simp [Value.oneCell']
              intro v' w2 hown2 hb2
              rw [← natV_snoc] at hown2
              have HO3 : Hid (w2.ownsRow (g+1) 3 1 v' (td' ++ [k]).length (natV (td' ++ [k]))) := Lib.hid (by rw [List.length_append]; exact hown2)
              have HB3 : Hid (Below g W0 w2) := Lib.hid ((HB.out.setCell (by simp) _).trans (hb2.mono (by omega)))
              have HR3 : Hid (w2.rowIs g 4 N (fun x => .bool (if x = k then true else inn' x))) :=
                Lib.hid (rowBelow ((HR.out.set k (.bool true)).congr (fun i hi => by by_cases e : i = k <;> simp [e])) hb2 (by omega))
              have hs2 := hb2.size
              rw [World.size_setCell] at hs2
              clear hown2 hb2 c0 f0 cw
              go_wp2
              go_roundw
              case rel => exact ⟨k + 1, _, td' ++ [k], by omega, by go_num, HO3.out, HR3.out, HB3.out, by omega, HSk.out, by omega⟩
              case measure => simp [intOf]; omega
        · obtain rfl : k = N := by omega
          have HSd := Lib.hid (hS.done hbN)
          have HO := Lib.hid hown; have HR := Lib.hid hrow; have HB := Lib.hid hbel
          have HM := Lib.hid (leftW_eq (A := A) (c := cp') (todo := td') hrow rfl)
          clear hown hrow hbel hS
          go_wp2
          go_roundw
          case rel => exact ⟨td', inn', HO.out, HR.out, HB.out, hgl', HSd.out, by rw [List.concat_eq_append] at hle; omega⟩
          case measure => rw [HM.out]; have := HLW.out; simp only [List.length_append, List.length_cons, List.length_nil, Nat.zero_add] at this; rw [this]; omega
end Go.Proofs.Ytikddfjickkhhaa
