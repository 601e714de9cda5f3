/- Lemmas and contracts of functions (what each call returns, and that it changes nothing that was there) that the proof of a law of this seat uses; each lemma states its own conditions. -/
import Derived.Test.YtoooihoaapfjeaaB19
import Derived.Maps.OwnOps
import Derived.Maps.OwnSet
import Derived.Test.YtoooihoaapfjeaaB11
import Derived.Test.YtoooihoaapfjeaaB16
namespace Go.Proofs.Ytoooihoaapfjeaa
open Go.RowKit
set_option linter.unusedVariables false
set_option linter.unusedSimpArgs false
open Ps Go.Maps
namespace Ps
/-- The name's bytes. -/
def nmL (s : List Int) : List UInt8 := s.map fun x => (97 + x).toNat.toUInt8
def nmB (s : List Int) : ByteArray := ⟨(nmL s).toArray⟩
theorem nm_enc {x : Int} (h : 0 ≤ x ∧ x < 12) : Utf8.encode (97 + x) = ⟨#[(97 + x).toNat.toUInt8]⟩ := by
  have key : ∀ q : Fin 12, Utf8.encode (97 + ((q.val : Nat) : Int)) = ⟨#[(97 + ((q.val : Nat) : Int)).toNat.toUInt8]⟩ := by decide +kernel
  have := key ⟨x.toNat, by omega⟩
  rwa [show ((x.toNat : Nat) : Int) = x by omega] at this
theorem nmB_size (s : List Int) : (nmB s).size = s.length := by
  show (nmL s).toArray.size = _
  simp [nmL]
theorem nmB_snoc {s : List Int} {x : Int} (h : 0 ≤ x ∧ x < 12) : nmB (s ++ [x]) = nmB s ++ Utf8.encode (97 + x) := by
  rw [nm_enc h]
  apply ByteArray.ext
  rw [ByteArray.data_append]
  show (nmL (s ++ [x])).toArray = (nmL s).toArray ++ #[_]
  simp [nmL]
theorem nmL_inj : ∀ {a b : List Int}, (∀ x ∈ a, 0 ≤ x ∧ x < 12) → (∀ x ∈ b, 0 ≤ x ∧ x < 12) → nmL a = nmL b → a = b
  | [], [], _, _, _ => rfl
  | [], y :: b, _, _, h => by cases h
  | x :: a, [], _, _, h => by cases h
  | x :: a, y :: b, h1, h2, h => by
    have h : (97 + x).toNat.toUInt8 :: nmL a = (97 + y).toNat.toUInt8 :: nmL b := h
    rw [List.cons.injEq] at h
    obtain ⟨h3, h4⟩ := h
    have hx := h1 x (by simp)
    have hy := h2 y (by simp)
    have e : (97 + x).toNat % 256 = (97 + y).toNat % 256 := congrArg UInt8.toNat h3
    rw [nmL_inj (fun z hz => h1 z (by simp [hz])) (fun z hz => h2 z (by simp [hz])) h4, show x = y by omega]
end Ps
set_option maxRecDepth 100000 in
set_option maxHeartbeats 8000000 in
theorem rname_any (a : Option Addr) (n c : Nat) (zs : List Int) (w : World) (hI : IsInts w a n zs) (hn : n ≤ 5) (hb : ∀ x ∈ zs, 0 ≤ x ∧ x < 12) :
    Calls Try.prog 21 #[.slice a n c] w fun e w' => e = .returned (.string (nmB zs)) ∧ Below w.heap.size w w' := by
  have HI := Lib.hid hI; have HB := Lib.hid hb; have HL := Lib.hid hI.1
  clear hI hb
  go_enter Try.func21, Try.ntmps21
  go_wp2_with fail
  go_loopw [3, 8] (fun sv iv wr => ∃ (k : Nat), k ≤ n ∧ iv = .int .i64 (k) ∧ sv = .string (nmB (zs.take k)) ∧ Hid (Below w.heap.size w wr)) (fun _ iv _ => n - (intOf iv).toNat)
  case atStart => exact ⟨0, by omega, rfl, rfl, Lib.hid (Below.refl _ _)⟩
  case round =>
    obtain ⟨k, hk, rfl, rfl, HBR⟩ := hrel
    by_cases hkn : k < n
    · obtain ⟨bl, o, rfl, hbl, hc⟩ := (HI.out.below HBR.out).2 (by omega)
      have lb : LtW bl wr := hbl
      have c0 := hc k hkn
      have dk : decide ((k : Int) < (n : Int)) = true := by simp; omega
      have dk' : decide (k < n) = true := by simpa using hkn
      have hx : 0 ≤ zs.getD k 0 ∧ zs.getD k 0 < 12 := by
        rw [List.getD_eq_getElem?_getD, List.getElem?_eq_getElem (by have := HL.out; omega)]
        exact HB.out _ (List.getElem_mem _)
      have HTK : Hid (nmB (zs.take (k + 1)) = nmB (zs.take k) ++ Utf8.encode (97 + zs.getD k 0)) := Lib.hid (by
        rw [← nmB_snoc hx, List.take_add_one, List.getD_eq_getElem?_getD, List.getElem?_eq_getElem (by have := HL.out; omega)]
        rfl)
      have hsz : ¬ 9223372036854775807 < (nmB (zs.take k)).size + (Utf8.encode (97 + zs.getD k 0)).size := by
        rw [nmB_size, nm_enc hx, List.length_take]
        have : (⟨#[(97 + zs.getD k 0).toNat.toUInt8]⟩ : ByteArray).size = 1 := rfl
        omega
      generalize zs.getD k 0 = x at *
      have v1 : IntKind.i64.wrap (97 + x) = 97 + x := IntWalk.i64_in _ (by omega)
      clear hbl hc
      go_wp2
      go_roundw
      case rel => exact ⟨k + 1, by omega, by go_num, by rw [HTK.out], HBR⟩
      case measure => simp [intOf]; omega
    · obtain rfl : k = n := by omega
      have dk : decide ((k : Int) < (k : Int)) = false := by simp
      have e : zs.take k = zs := by rw [List.take_of_length_le]; rw [HL.out]; exact Nat.le_refl _
      rw [e]
      go_wp2
      go_ret
      exact ⟨rfl, HBR.out⟩
/-- What is known, by names, in block mb. -/
def FS (mb : Nat) (E : List (List Int × Nat)) (w : World) : Prop :=
  ∃ D : DataW Unit, w.ownsMap Try.prog 9 (plainElem Try.prog 3) mb E.length D ∧ IsMap D ∧ (∀ k : List UInt8, Maps.has D (.string k) = E.any fun e => nmL e.1 == k) ∧ ∀ e ∈ E, D.atKey (.string (nmL e.1)) (.lit (.int .i64 0)) = .lit (.int .i64 (e.2 : Nat))
theorem FS.keep {B : Obj → Bool} {mb : Nat} {E : List (List Int × Nat)} {w w' : World} (h : FS mb E w) (hk : TyO B w w') (hB : ∀ es c, B (.map es c) = false) : FS mb E w' := by
  obtain ⟨D, ⟨es, c, h1, h2⟩, h3⟩ := h
  exact ⟨D, ⟨es, c, (hk.block mb _ h1 (hB _ _)).trans h1, h2⟩, h3⟩
theorem lawKS : Keyed Try.prog 9 := string_keyed Try.underlying9
theorem keyOfS {s : List Int} (h : s.length ≤ 100) : keyOf Try.prog 9 (.string (nmB s)) = some (.string (nmL s)) := by
  have := WideMaps.keyOf_string_mk (P := Try.prog) Try.underlying9 (s := nmB s) (by rw [nmB_size]; unfold maxLen; omega)
  simpa [nmB] using this
/-- A look-up in whatever world grows out of this. -/
theorem FS.lookE {mb : Nat} {E : List (List Int × Nat)} {w : World} (h : FS mb E w) {s : List Int} (hk : s.length ≤ 100) : ∃ v : Int, (∀ w', Below w.heap.size w w' → (Instr.lookup 46 (.map (some mb)) (.string (nmB s)) true).run Try.prog w' = .ok (.tuple #[.int .i64 v, .bool (E.any fun e => nmL e.1 == nmL s)]) w') ∧ ∀ e ∈ E, nmL e.1 = nmL s → v = (e.2 : Nat) := by
  obtain ⟨D, hown, _, hh, ha⟩ := h
  obtain ⟨c, hrun2, hat, hwc⟩ := hown.lookup_int lawKS Try.underlying46 Try.underlying3 (zeroI w) (keyOfS hk)
  refine ⟨c, fun w' hb => ?_, fun e he hek => ?_⟩
  · have hown' : w'.ownsMap Try.prog 9 (plainElem Try.prog 3) mb E.length D := by
      obtain ⟨es, cl, h1, h2⟩ := hown
      exact ⟨es, cl, (hb.block mb (Array.getElem?_eq_some_iff.1 h1).1).trans h1, h2⟩
    obtain ⟨v, ps, hrun, hv⟩ := hown'.look_ok lawKS Try.underlying46 (zeroI w') (plainElem_int Try.underlying3 (by decide)) (keyOfS hk)
    obtain ⟨c2, rfl, hc2, _⟩ := plainElem_int_inv Try.underlying3 hv
    have e : c2 = c := by
      have := congrArg Prod.fst hc2
      simp only at this
      rw [hat] at this
      injection this with this
      injection this with _ this
      exact this.symm
    subst e
    rw [← hh (nmL s)]; exact hrun
  · have h1 := ha e he
    rw [hek, hat] at h1
    injection h1 with h1
    injection h1
theorem FS.store {mb : Nat} {E : List (List Int × Nat)} {w : World} (h : FS mb E w) (s : List Int) (d : Nat) (hk : s.length ≤ 100) (hd : d ≤ 9223372036854775807) (hl : E.length ≤ 1000000) (hnew : ∀ e ∈ E, nmL e.1 ≠ nmL s) :
    ∃ w', (Instr.mapUpdate 46 (.map (some mb)) (.string (nmB s)) (.int .i64 (d : Nat))).run Try.prog w = .ok () w' ∧ FS mb (E ++ [(s, d)]) w' ∧ w.grownBy w' (some mb) := by
  obtain ⟨D, hown, hM, hh, ha⟩ := h
  obtain ⟨w', hrun, hown', hg⟩ := hown.update lawKS Try.underlying46 (by unfold maxLen; omega) (keyOfS hk) (plainElem_int (a := (d : Int)) Try.underlying3 (i64wf (by omega)))
  have hkey := lawKS.key (keyOfS hk)
  have hf : Maps.has D (.string (nmL s)) = false := by
    rw [hh]
    refine List.any_eq_false.2 fun e he h2 => hnew e he (by simpa using h2)
  refine ⟨w', hrun, ⟨_, by rw [List.length_append]; simpa [hf] using hown', hM.put _ _, fun k => ?_, fun e he => ?_⟩, hg⟩
  · rw [List.any_append]
    by_cases hk : k = nmL s
    · subst hk
      rw [has_put_same hM hkey]
      simp
    · rw [has_put_other (by intro e; injection e with e; exact hk e), hh k]
      simp
      intro e; exact absurd e.symm hk
  · rcases List.mem_append.1 he with he | he
    · rw [atKey_put_other (by intro e2; injection e2 with e2; exact hnew e he e2)]
      exact ha e he
    · simp at he
      subst he
      exact atKey_put_same hM hkey _ _
theorem FS.made (w : World) : FS w.heap.size [] (w.alloc (.map #[] 0)) := ⟨.map [], World.ownsMap_made _ _ _ _, isMap_empty, fun k => rfl, fun e he => by simp at he⟩
end Go.Proofs.Ytoooihoaapfjeaa

namespace Go.Proofs.Ytoooihoaapfjeaa
open Go.RowKit
set_option linter.unusedVariables false
set_option linter.unusedSimpArgs false
namespace Ps
/-- While the layer m + 1 is sought: last is the layer m, next what has been found of it. -/
structure LI (to : List Int) (sl : Int) (m : Nat) (last next : List (List Int)) (E : List (List Int × Nat)) : Prop where
  nd : (E.map (·.1)).Nodup
  ok : ∀ e ∈ E, okS to sl e.1 ∧ e.1.length = to.length ∧ Dmin to sl e.2 e.1 ∧ e.2 ≤ m + 1
  old : ∀ k, k ≤ m → ∀ s, okS to sl s → s.length = to.length → Dmin to sl k s → s ∈ E.map (·.1)
  la : ∀ s ∈ last, okS to sl s ∧ s.length = to.length ∧ Dmin to sl m s
  lc : ∀ s, okS to sl s → s.length = to.length → Dmin to sl m s → s ∈ last
  nx : ∀ s, s ∈ next → (s, m + 1) ∈ E
  nc : ∀ s, (s, m + 1) ∈ E → s ∈ next
  nl : next.length ≤ E.length
/-- A way to stand is known, if it may be. -/
def kn (to : List Int) (sl : Int) (E : List (List Int × Nat)) (b : List Int) : Prop := okS to sl b → b ∈ E.map (·.1)
theorem kn.app {to : List Int} {sl : Int} {E : List (List Int × Nat)} {b : List Int} (x : List Int × Nat) (h : kn to sl E b) : kn to sl (E ++ [x]) b := fun ho => by
  rw [List.map_append]
  exact List.mem_append_left _ (h ho)
theorem LI.start {to : List Int} {sl : Int} (ht : okS to sl to) : LI to sl 0 [to] [] [(to, 0)] := by
  have h0 : Dmin to sl 0 to := ⟨⟨[], rfl, by simp, rfl⟩, fun k' _ => Nat.zero_le _⟩
  refine ⟨by simp, ?_, ?_, ?_, ?_, by simp, ?_, by simp⟩
  · intro e he
    simp at he
    subst he
    exact ⟨ht, rfl, h0, by omega⟩
  · intro k hk s _ _ hd
    obtain rfl : k = 0 := by omega
    rw [dmin_zero hd]
    simp
  · intro s hs
    simp at hs
    subst hs
    exact ⟨ht, rfl, h0⟩
  · intro s _ _ hd
    rw [dmin_zero hd]
    simp
  · intro s hs
    simp at hs
theorem mv_zero (s : List Int) (w : Nat) : mv s 0 w = s := by
  refine ext_getD (mv_len _ _ _) fun i hi => ?_
  rw [mv_len] at hi
  rw [mv_get _ _ _ _ hi]
  split <;> omega
/-- A pass of nothing finds nothing. -/
theorem LI.kn_zero {to : List Int} {sl : Int} {m : Nat} {last next : List (List Int)} {E : List (List Int × Nat)} (h : LI to sl m last next E) {s : List Int} (hs : s ∈ last) (w : Nat) : kn to sl E (mv s 0 w) := by
  rw [mv_zero]
  intro _
  obtain ⟨h1, h2, h3⟩ := h.la s hs
  exact h.old m (Nat.le_refl _) s h1 h2 h3
/-- One that was not known is found. -/
theorem LI.step {to : List Int} {sl : Int} {m : Nat} {last next : List (List Int)} {E : List (List Int × Nat)} (h : LI to sl m last next E) {s : List Int} (hs : s ∈ last) {b : Int} {w : Nat} (hb : -2 ≤ b ∧ b ≤ 2) (hw : 1 ≤ w ∧ w < 2 ^ to.length)
    (ho : okS to sl (mv s b w)) (hn : mv s b w ∉ E.map (·.1)) : LI to sl m last (next ++ [mv s b w]) (E ++ [(mv s b w, m + 1)]) := by
  obtain ⟨s1, s2, s3⟩ := h.la s hs
  have hlen : (mv s b w).length = to.length := by rw [mv_len]; exact s2
  have hb0 : b ≠ 0 := by
    rintro rfl
    exact hn (h.kn_zero hs w ho)
  have hv : valid to.length (-b, w) := ⟨by show -b = -2 ∨ -b = -1 ∨ -b = 1 ∨ -b = 2; omega, hw.1, hw.2⟩
  have hd : dist to sl (m + 1) (mv s b w) := by
    have e : mv (mv s b w) (-b, w).1 (-b, w).2 = s := mv_back s b w
    exact dist_step hv (by rw [e]; exact s1) (by rw [e]; exact s3.1)
  have hdm : Dmin to sl (m + 1) (mv s b w) := by
    obtain ⟨k', hk'⟩ := Dmin.of_dist _ hd
    have h1 := hk'.2 _ hd
    by_cases h2 : k' ≤ m
    · exact absurd (h.old k' h2 _ ho hlen hk') hn
    · obtain rfl : k' = m + 1 := by omega
      exact hk'
  refine ⟨?_, ?_, ?_, h.la, h.lc, ?_, ?_, ?_⟩
  · rw [List.map_append, List.nodup_append]
    refine ⟨h.nd, by simp, ?_⟩
    intro a ha c hc
    simp at hc
    subst hc
    intro e
    exact hn (e ▸ ha)
  · intro e he
    rcases List.mem_append.1 he with he | he
    · exact h.ok e he
    · simp at he
      subst he
      exact ⟨ho, hlen, hdm, Nat.le_refl _⟩
  · intro k hk s' a1 a2 a3
    rw [List.map_append]
    exact List.mem_append_left _ (h.old k hk s' a1 a2 a3)
  · intro s' hs'
    rcases List.mem_append.1 hs' with h1 | h1
    · exact List.mem_append_left _ (h.nx s' h1)
    · simp at h1
      subst h1
      exact List.mem_append_right _ (by simp)
  · intro s' hs'
    rcases List.mem_append.1 hs' with h1 | h1
    · exact List.mem_append_left _ (h.nc s' h1)
    · simp at h1
      subst h1
      exact List.mem_append_right _ (by simp)
  · simp only [List.length_append, List.length_singleton]
    have := h.nl
    omega
/-- The layer is done. -/
theorem LI.done {to : List Int} {sl : Int} {m : Nat} {last next : List (List Int)} {E : List (List Int × Nat)} (h : LI to sl m last next E) (hk : ∀ s ∈ last, ∀ b : Int, -2 ≤ b ∧ b ≤ 2 → ∀ w, 1 ≤ w → w < 2 ^ to.length → kn to sl E (mv s b w)) : LI to sl (m + 1) next [] E := by
  have hall : ∀ s, okS to sl s → s.length = to.length → Dmin to sl (m + 1) s → s ∈ E.map (·.1) := by
    intro s ho hl hd
    obtain ⟨p, hp, h1, h2⟩ := dmin_step hd
    have h3 := h.lc _ h1 (by rw [mv_len]; exact hl) h2
    have h4 := hk _ h3 (-p.1) (by have := hp.1; omega) p.2 hp.2.1 hp.2.2
    rw [mv_back] at h4
    exact h4 ho
  refine ⟨h.nd, fun e he => ?_, fun k hk2 s a1 a2 a3 => ?_, fun s hs => ?_, fun s a1 a2 a3 => ?_, by simp, fun s hs => ?_, by simp⟩
  · obtain ⟨a1, a2, a3, a4⟩ := h.ok e he
    exact ⟨a1, a2, a3, by omega⟩
  · by_cases hk3 : k ≤ m
    · exact h.old k hk3 s a1 a2 a3
    · obtain rfl : k = m + 1 := by omega
      exact hall s a1 a2 a3
  · obtain ⟨a1, a2, a3, a4⟩ := h.ok _ (h.nx s hs)
    exact ⟨a1, a2, a3⟩
  · obtain ⟨e, he, rfl⟩ := List.mem_map.1 (hall s a1 a2 a3)
    obtain ⟨_, _, b3, _⟩ := h.ok e he
    have e2 : e.2 = m + 1 := b3.uniq a3
    exact h.nc _ (by rw [← e2]; exact he)
  · have := (h.ok _ hs).2.2.2
    simp only at this
    omega
/-- All that can come is known, each with how far it is. -/
def EP (to : List Int) (sl : Int) (E : List (List Int × Nat)) : Prop :=
  (E.map (·.1)).Nodup ∧ (∀ e ∈ E, okS to sl e.1 ∧ e.1.length = to.length ∧ Dmin to sl e.2 e.1) ∧ ∀ k s, okS to sl s → s.length = to.length → Dmin to sl k s → s ∈ E.map (·.1)
theorem LI.all {to : List Int} {sl : Int} {m : Nat} {next : List (List Int)} {E : List (List Int × Nat)} (h : LI to sl m [] next E) : EP to sl E := by
  have key : ∀ j s, okS to sl s → s.length = to.length → ¬ Dmin to sl (m + j) s := by
    intro j
    induction j with
    | zero =>
      intro s a1 a2 a3
      have := h.lc s a1 a2 a3
      simp at this
    | succ j ih =>
      intro s a1 a2 a3
      obtain ⟨p, _, h1, h2⟩ := dmin_step (show Dmin to sl ((m + j) + 1) s from a3)
      exact ih _ h1 (by rw [mv_len]; exact a2) h2
  refine ⟨h.nd, fun e he => ⟨(h.ok e he).1, (h.ok e he).2.1, (h.ok e he).2.2.1⟩, fun k s a1 a2 a3 => ?_⟩
  by_cases hk : k ≤ m
  · exact h.old k hk s a1 a2 a3
  · exact absurd (show Dmin to sl (m + (k - m)) s by rw [show m + (k - m) = k by omega]; exact a3) (key _ s a1 a2)
theorem keys_len {to : List Int} {sl : Int} {E : List (List Int × Nat)} (hnd : (E.map (·.1)).Nodup) (hok : ∀ e ∈ E, okS to sl e.1 ∧ e.1.length = to.length) (h5 : to.length ≤ 5) : E.length ≤ 248832 := by
  have hk : ∀ e ∈ E, 0 ≤ keyZ e.1 ∧ keyZ e.1 < 248832 := fun e he => keyZ_nat e.1 (okS_bd (hok e he).1) (by rw [(hok e he).2]; exact h5)
  have hnd : ((E.map (·.1)).map fun s => (keyZ s).toNat).Nodup := by
    rw [List.nodup_iff_pairwise_ne, List.pairwise_map]
    refine List.Pairwise.imp_of_mem ?_ (List.nodup_iff_pairwise_ne.1 hnd)
    intro a b ha hb hne e
    obtain ⟨x, hx, rfl⟩ := List.mem_map.1 ha
    obtain ⟨y, hy, rfl⟩ := List.mem_map.1 hb
    have h1 := hk x hx
    have h2 := hk y hy
    exact hne (keyZ_inj _ _ ((hok x hx).2.trans (hok y hy).2.symm) (okS_bd (hok x hx).1) (okS_bd (hok y hy).1) (by omega))
  have hsub : ((E.map (·.1)).map fun s => (keyZ s).toNat) ⊆ List.range 248832 := by
    intro k hk2
    obtain ⟨s, hs, rfl⟩ := List.mem_map.1 hk2
    obtain ⟨x, hx, rfl⟩ := List.mem_map.1 hs
    have h1 := hk x hx
    rw [List.mem_range]
    omega
  have := List.Nodup.length_le_of_subset hnd hsub
  simpa using this
theorem LI.len {to : List Int} {sl : Int} {m : Nat} {last next : List (List Int)} {E : List (List Int × Nat)} (h : LI to sl m last next E) (h5 : to.length ≤ 5) : E.length ≤ 248832 := keys_len h.nd (fun e he => ⟨(h.ok e he).1, (h.ok e he).2.1⟩) h5
/-- Known or not: by its name. -/
theorem any_nm {to : List Int} {sl : Int} {E : List (List Int × Nat)} (hok : ∀ e ∈ E, okS to sl e.1 ∧ e.1.length = to.length) {s : List Int} (hs : okS to sl s) : (E.any fun e => nmL e.1 == nmL s) = decide (s ∈ E.map (·.1)) := by
  by_cases hm : s ∈ E.map (·.1)
  · rw [decide_eq_true hm]
    obtain ⟨e, he, rfl⟩ := List.mem_map.1 hm
    exact List.any_eq_true.2 ⟨e, he, by simp⟩
  · rw [decide_eq_false hm]
    refine List.any_eq_false.2 fun e he hk => hm ?_
    have hk : nmL e.1 = nmL s := by simpa using hk
    rw [← nmL_inj (okS_bd (hok e he).1) (okS_bd hs) hk]
    exact List.mem_map.2 ⟨e, he, rfl⟩
end Ps
end Go.Proofs.Ytoooihoaapfjeaa

namespace Go.Proofs.Ytoooihoaapfjeaa
open Go.RowKit
set_option linter.unusedVariables false
set_option linter.unusedSimpArgs false
open Ps Go.Maps
namespace Ps
/-- What has been looked at: from row i, by b, from v on all is still to do. -/
def KN (to : List Int) (sl : Int) (last : List (List Int)) (E : List (List Int × Nat)) (i : Nat) (b : Int) (v : Nat) : Prop :=
  ∀ j (c : Int) u, j < last.length → -2 ≤ c → c ≤ 2 → 1 ≤ u → u < 2 ^ to.length → (j < i ∨ (j = i ∧ (c < b ∨ (c = b ∧ u < v)))) → kn to sl E (mv (last.getD j []) c u)
theorem KN.start {to : List Int} {sl : Int} {last : List (List Int)} {E : List (List Int × Nat)} : KN to sl last E 0 (-2) 1 := by
  intro j c u h1 h2 h3 h4 h5 h6
  omega
theorem KN.app {to : List Int} {sl : Int} {last : List (List Int)} {E : List (List Int × Nat)} {i : Nat} {b : Int} {v : Nat} (h : KN to sl last E i b v) (x : List Int × Nat) : KN to sl last (E ++ [x]) i b v :=
  fun j c u h1 h2 h3 h4 h5 h6 => (h j c u h1 h2 h3 h4 h5 h6).app x
theorem KN.next {to : List Int} {sl : Int} {last : List (List Int)} {E : List (List Int × Nat)} {i : Nat} {b : Int} {v : Nat} (h : KN to sl last E i b v) (hk : kn to sl E (mv (last.getD i []) b v)) : KN to sl last E i b (v + 1) := by
  intro j c u h1 h2 h3 h4 h5 h6
  by_cases e : j = i ∧ c = b ∧ u = v
  · obtain ⟨rfl, rfl, rfl⟩ := e
    exact hk
  · exact h j c u h1 h2 h3 h4 h5 (by omega)
theorem KN.row {to : List Int} {sl : Int} {last : List (List Int)} {E : List (List Int × Nat)} {i : Nat} {b : Int} {v : Nat} (h : KN to sl last E i b v) (hv : 2 ^ to.length ≤ v) : KN to sl last E i (b + 1) 1 := by
  intro j c u h1 h2 h3 h4 h5 h6
  exact h j c u h1 h2 h3 h4 h5 (by omega)
theorem KN.col {to : List Int} {sl : Int} {last : List (List Int)} {E : List (List Int × Nat)} {i : Nat} (h : KN to sl last E i 3 1) : KN to sl last E (i + 1) (-2) 1 := by
  intro j c u h1 h2 h3 h4 h5 h6
  exact h j c u h1 h2 h3 h4 h5 (by omega)
theorem KN.all {to : List Int} {sl : Int} {last : List (List Int)} {E : List (List Int × Nat)} (h : KN to sl last E last.length (-2) 1) : ∀ s ∈ last, ∀ b : Int, -2 ≤ b ∧ b ≤ 2 → ∀ w, 1 ≤ w → w < 2 ^ to.length → kn to sl E (mv s b w) := by
  intro s hs b hb w h1 h2
  obtain ⟨j, hj, rfl⟩ := List.getElem_of_mem hs
  have := h j b w hj hb.1 hb.2 h1 h2 (.inl hj)
  rwa [List.getD_eq_getElem?_getD, List.getElem?_eq_getElem hj] at this
end Ps
/-- Lists of ways to stand, that the call has made; each its caller's own or made by the call. -/
def LS (w0 : World) (v : Value) (LL : List (List Int)) (w : World) : Prop :=
  ∃ vs : List Value, w.ownsRow w0.heap.size 22 1 v LL.length vs ∧ ∀ j, j < LL.length → EL w0 w (vs.getD j (.slice none 0 0)) (LL.getD j [])
theorem LS.nil (w0 w : World) : LS w0 (.slice none 0 0) [] w := ⟨[], World.ownsRow_nil _ _ _ _, fun j h => by simp at h⟩
theorem LS.form {w0 w : World} {v : Value} {LL : List (List Int)} (h : LS w0 v LL w) : ∃ A c, v = .slice A LL.length c := by
  obtain ⟨vs, h1, _⟩ := h
  exact own_form h1
theorem own_of_block {w w' : World} {base e n : Nat} {v : Value} {xs : List Value} (h : w.ownsRow base e 1 v n xs) (hb : ∀ g o, v.ownBlock = some g → w.heap[g]? = some o → w'.heap[g]? = w.heap[g]?) : w'.ownsRow base e 1 v n xs := by
  refine ⟨h.1, ?_⟩
  rcases h.2 with h2 | ⟨g, cap, cur, e1, e2, e3, e4⟩
  · exact .inl h2
  · exact .inr ⟨g, cap, cur, e1, e2, by rw [hb g _ (by rw [e1]; rfl) e3]; exact e3, e4⟩
theorem own_tyB {w : World} {base e n g : Nat} {v : Value} {xs : List Value} (h : w.ownsRow base e 1 v n xs) (hg : v.ownBlock = some g) : ∃ cur, w.heap[g]? = some (.cells cur e (0, 0)) := by
  rcases h.2 with ⟨h2, _⟩ | ⟨g', cap, cur, e1, e2, e3, e4⟩
  · rw [h2] at hg; cases hg
  · rw [e1] at hg
    cases hg
    exact ⟨cur, e3⟩
theorem LS.keep {B : Obj → Bool} {w0 w w' : World} {v : Value} {LL : List (List Int)} (h : LS w0 v LL w) (hk : TyO B w w') (hB : ∀ c fz, B (.cells c 3 fz) = false) (hB2 : ∀ c fz, B (.cells c 22 fz) = false) : LS w0 v LL w' := by
  obtain ⟨vs, ho, hr⟩ := h
  refine ⟨vs, own_of_block ho fun g o hg ho2 => ?_, fun j hj => (hr j hj).keep hk hB⟩
  obtain ⟨cur, e⟩ := own_tyB ho hg
  exact hk.block g _ e (hB2 _ _)
theorem LS.get {w0 w : World} {v : Value} {LL : List (List Int)} (h : LS w0 v LL w) {j : Nat} (hj : j < LL.length) : ∃ g c x, v = .slice (some ⟨g, 0, none⟩) LL.length c ∧ w.cell? ⟨g, j, none⟩ = some x ∧ g < w.heap.size ∧ EL w0 w x (LL.getD j []) := by
  obtain ⟨vs, ho, hr⟩ := h
  obtain ⟨g, c, rfl⟩ := own_some ho (by omega)
  have hl : vs.length = LL.length := by have := ho.1; omega
  refine ⟨g, c, vs.getD j (.slice none 0 0), rfl, ?_, own_lt ho, hr j hj⟩
  rw [(own_cell ho hj).1, List.getD_eq_getElem?_getD, List.getElem?_eq_getElem (by omega)]
  rfl
theorem LS.one {w0 w : World} {v : Value} {s : List Int} (hb : w0.heap.size ≤ w.heap.size) (h : EL w0 w v s) : LS w0 (.slice (some ⟨w.heap.size, 0, none⟩) 1 1) [s] (w.alloc (.cells #[v] 22)) := by
  refine ⟨[v], owns_new hb, fun j hj => ?_⟩
  obtain rfl : j = 0 := by simpa using hj
  exact h.keep (TyO.below (B := fun _ => false) (show Below w.heap.size w (w.alloc (.cells #[v] 22)) from Below.alloc (Below.refl _ _) (Nat.le_refl _) _)) (fun _ _ => rfl)
/-- All that lies in memory: the last layer, the next one, the map. -/
structure LB (mb : Nat) (w0 : World) (vL vN : Value) (last next : List (List Int)) (E : List (List Int × Nat)) (w : World) : Prop where
  la : LS w0 vL last w
  nx : LS w0 vN next w
  ap : ∀ k, vL.ownBlock = some k → vN.ownBlock ≠ some k
  fm : FS mb E w
  bel : Below w0.heap.size w0 w
  om : w0.heap.size ≤ mb
section
variable {mb : Nat} {w0 w w' : World} {vL vN : Value} {last next : List (List Int)} {E : List (List Int × Nat)}
theorem LB.grow (h : LB mb w0 vL vN last next E w) (hb : Below w.heap.size w w') : LB mb w0 vL vN last next E w' := by
  have hk : TyO (fun _ => false) w w' := TyO.below hb
  exact ⟨h.la.keep hk (fun _ _ => rfl) (fun _ _ => rfl), h.nx.keep hk (fun _ _ => rfl) (fun _ _ => rfl), h.ap, h.fm.keep hk (fun _ _ => rfl), h.bel.trans (hb.mono h.bel.size), h.om⟩
theorem LB.ty (h : LB mb w0 vL vN last next E w) (hg : w.grownBy w' (some mb)) : TyO Bmap w w' := by
  obtain ⟨D, ⟨es, cl, h1, _⟩, _⟩ := h.fm
  exact TyO.grown hg h1 rfl
theorem LB.mapd {E' : List (List Int × Nat)} (h : LB mb w0 vL vN last next E w) (hg : w.grownBy w' (some mb)) (hf : FS mb E' w') : LB mb w0 vL vN last next E' w' := by
  have hk := h.ty hg
  exact ⟨h.la.keep hk (fun _ _ => rfl) (fun _ _ => rfl), h.nx.keep hk (fun _ _ => rfl) (fun _ _ => rfl), h.ap, hf, h.bel.grown hg h.bel.size (fun k e => by injection e with e; have := h.om; omega), h.om⟩
theorem LB.turn (h : LB mb w0 vL vN last next E w) : LB mb w0 vN (.slice none 0 0) next [] E w := ⟨h.nx, LS.nil _ _, (fun k _ h9 => by cases h9), h.fm, h.bel, h.om⟩
theorem grown_tyB {base e n : Nat} {v : Value} {xs : List Value} (ho : w.ownsRow base 22 1 v n xs) (hg : w.grownBy w' v.ownBlock) : TyO Bg w w' := by
  cases hb : v.ownBlock with
  | none => rw [hb] at hg; exact TyO.none hg
  | some g =>
    rw [hb] at hg
    obtain ⟨cur, e⟩ := own_tyB ho hb
    exact TyO.grown hg e rfl
/-- Another one is found. -/
theorem LB.app (h : LB mb w0 vL vN last next E w) {s : List Int} {x : Value} (hx : EL w0 w x s) :
    ∃ vs, w.ownsRow w0.heap.size 22 1 vN next.length vs ∧ ∀ v' w', w'.ownsRow w0.heap.size 22 1 v' (next.length + 1) (vs ++ [x]) → w.grownBy w' vN.ownBlock → (v'.ownBlock = vN.ownBlock ∨ v'.ownBlock = some w.heap.size) → TyO Bg w w' ∧ LB mb w0 vL v' last (next ++ [s]) E w' := by
  obtain ⟨vs, ho, hr⟩ := h.nx
  refine ⟨vs, ho, fun v' w' hown hg hat => ?_⟩
  have hk : TyO Bg w w' := grown_tyB (e := 0) ho hg
  obtain ⟨us, hu, hur⟩ := h.la
  have hl : vs.length = next.length := by have := ho.1; omega
  refine ⟨hk, ⟨us, own_grownG hu hg fun k hk2 hk3 => h.ap k hk3 hk2, fun j hj => (hur j hj).keep hk (fun _ _ => rfl)⟩, ⟨vs ++ [x], by rw [List.length_append]; exact hown, fun j hj => ?_⟩, fun k hk2 hk3 => ?_, h.fm.keep hk (fun _ _ => rfl), h.bel.grown hg h.bel.size (fun k e => (ho.lt k e).1), h.om⟩
  · rw [List.length_append, List.length_singleton] at hj
    by_cases e : j < next.length
    · rw [List.getD_eq_getElem?_getD, List.getD_eq_getElem?_getD, List.getElem?_append_left (by omega), List.getElem?_append_left e, ← List.getD_eq_getElem?_getD, ← List.getD_eq_getElem?_getD]
      exact (hr j e).keep hk (fun _ _ => rfl)
    · obtain rfl : j = next.length := by omega
      rw [List.getD_eq_getElem?_getD, List.getD_eq_getElem?_getD, List.getElem?_append_right (by omega), List.getElem?_append_right (Nat.le_refl _), hl, Nat.sub_self]
      exact hx.keep hk (fun _ _ => rfl)
  · rcases hat with e | e
    · exact h.ap k hk2 (e ▸ hk3)
    · rw [e] at hk3
      cases hk3
      have := (hu.lt _ hk2).2
      omega
end
end Go.Proofs.Ytoooihoaapfjeaa
