/- Lemmas on which the law of this seat rests; each states its own conditions. -/
import Derived.Test.YtajdoobkfbdgoaaDoorC21
import Derived.Test.YtajdoobkfbdgoaaDoorC27
import Derived.Test.YtajdoobkfbdgoaaDoorC02
import Derived.Test.YtajdoobkfbdgoaaDoorC17
import Derived.Test.YtajdoobkfbdgoaaDoorC06
import Derived.Lib.Builder
import Derived.Lib.RuneBytes
import Derived.Lib.AppendStr
import Derived.Lib.UnsafeStr
set_option linter.unusedVariables false
set_option linter.unusedSimpArgs false
namespace Go.Proofs.YtajdoobkfbdgoaaDoor
section
open Cl
theorem lift_nilT {n : Nat} {ab : Nat → Nat → Bool} (hB : Bnd n ab) : lift n ab = [] ↔ ∀ s, s < n → ∀ a, a < n → Rch ab a s := by
 constructor
 ·intro h
  unfold lift at h
  cases hf : (List.range n).find? (fun s => decide (Cl.cnt n (fun a => wp ab n a s) < n)) with
  | some s =>
   rw [hf] at h
   simp only at h
   have hs : s < n := by have := List.mem_of_find?_eq_some hf; simpa using this
   have : s ∈ (List.range n).filter (fun a => wp ab n a s) := List.mem_filter.2 ⟨by simpa using hs, wp_self ab n s⟩
   rw [h] at this
   cases this
  | none =>
   intro s hs a ha
   rw [List.find?_eq_none] at hf
   have h1 := hf s (by simpa using hs)
   simp only [decide_eq_true_eq] at h1
   have h2 := Cl.cnt_le n (fun a => wp ab n a s)
   have h3 : Cl.cnt n (fun a => wp ab n a s) = n := by omega
   have h4 : wp ab n a s = true := Cl.cnt_full.1 h3 a ha
   rw [wp_iff hB] at h4
   exact up_iff.1 h4
 ·intro h
  refine lift_none fun s hs => ?_
  have : Cl.cnt n (fun a => wp ab n a s) = n := Cl.cnt_full.2 fun a ha => by
   show wp ab n a s = true
   rw [wp_iff hB]
   exact up_iff.2 (h s hs a ha)
  omega
def strd (W H N s t a : Nat) : Nat := if a < N then (a + s) % W else W + (a - N + t) % H
section
variable {W H N s t : Nat} {bs bs' : List Bool}
theorem strd_lt (hW : 0 < W) (hH : 0 < H) (a : Nat) : strd W H N s t a < W + H := by
 have h1 := Nat.mod_lt (a + s) hW
 have h2 := Nat.mod_lt (a - N + t) hH
 unfold strd
 split <;> omega
theorem strd_ex (hd : W ∣ N) (hd2 : H ∣ N) (hW : 0 < W) (hH : 0 < H) (hN : 0 < N) {u : Nat} (hu : u < W + H) : ∃ a, a < N + N ∧ strd W H N s t a = u := by
 have key : ∀ {m k x : Nat}, 0 < m → m ∣ N → x < m → ∃ x', x' < N ∧ (x' + k) % m = x := fun {m k x} hm hd hx => by
  have hle := Nat.le_of_dvd hN hd
  have hs : k % m < m := Nat.mod_lt _ hm
  refine ⟨(x + (m - k % m)) % m, by have := Nat.mod_lt (x + (m - k % m)) hm; omega, ?_⟩
  rw [Nat.mod_add_mod]
  have h2 : k = k % m + m * (k / m) := (Nat.mod_add_div k m).symm
  have h3 : x + (m - k % m) + k = x + m * (1 + k / m) := by rw [Nat.mul_add, Nat.mul_one]; omega
  rw [h3, Nat.add_mul_mod_self_left, Nat.mod_eq_of_lt hx]
 by_cases h : u < W
 ·obtain ⟨x', h1, h2⟩ := key (k := s) hW hd h
  exact ⟨x', by omega, by unfold strd; rw [if_pos h1, h2]⟩
 ·obtain ⟨x', h1, h2⟩ := key (k := t) (x := u - W) hH hd2 (by omega)
  exact ⟨N + x', by omega, by unfold strd; rw [if_neg (by omega), show N + x' - N = x' by omega, h2]; omega⟩
theorem strd_ab (h : LaidB W H N s t bs bs') (hW : 0 < W) (hH : 0 < H) {a b : Nat} (ha : a < N + N) (hb : b < N + N) : abM N N bs' a b = abM W H bs (strd W H N s t a) (strd W H N s t b) := by
 have a1 := Nat.mod_lt (a + s) hW
 have a2 := Nat.mod_lt (a - N + t) hH
 have b1 := Nat.mod_lt (b + s) hW
 have b2 := Nat.mod_lt (b - N + t) hH
 unfold strd abM
 by_cases h1 : a < N <;> by_cases h2 : b < N
 ·rw [if_pos h1, if_pos h2, if_neg (by omega), if_neg (by omega), if_neg (by omega), if_neg (by omega)]
 ·rw [if_pos h1, if_neg h2, if_pos (by omega), if_pos (by omega), h (b - N) a (by omega) h1, show W + (b - N + t) % H - W = (b - N + t) % H by omega]
 ·rw [if_neg h1, if_pos h2, if_neg (by omega), if_pos (by omega), if_neg (by omega), if_pos (by omega), h (a - N) b (by omega) h2, show W + (a - N + t) % H - W = (a - N + t) % H by omega]
 ·rw [if_neg h1, if_neg h2, if_neg (by omega), if_neg (by omega), if_neg (by omega), if_neg (by omega)]
theorem strd_back (h : LaidB W H N s t bs bs') (hd : W ∣ N) (hd2 : H ∣ N) (hW : 0 < W) (hH : 0 < H) (hN : 0 < N) {u v : Nat} (k : Rch (abM W H bs) u v) :
  ∀ b, b < N + N → strd W H N s t b = v → (∃ a, a < N + N ∧ strd W H N s t a = u ∧ Rch (abM N N bs') a b) ∧ (u ≠ v → ∀ a, a < N + N → strd W H N s t a = u → Rch (abM N N bs') a b) := by
 induction k with
 | rf u => exact fun b hb e => ⟨⟨b, hb, e, .rf b⟩, fun hne => absurd rfl hne⟩
 | @st u m v huv k ih =>
  intro b hb e
  obtain ⟨⟨m', h1, h2, h3⟩, _⟩ := ih b hb e
  have hlt := abM_bnd W H bs u m huv
  have step : ∀ a, a < N + N → strd W H N s t a = u → Rch (abM N N bs') a b := fun a ha ea => .st (b := m') (by rw [strd_ab h hW hH ha h1, ea, h2]; exact huv) h3
  obtain ⟨a, ha, ea⟩ := strd_ex (s := s) (t := t) hd hd2 hW hH hN hlt.1
  exact ⟨⟨a, ha, ea, step a ha ea⟩, fun _ => step⟩
theorem strd_fwd (h : LaidB W H N s t bs bs') (hW : 0 < W) (hH : 0 < H) {a b : Nat} (k : Rch (abM N N bs') a b) : Rch (abM W H bs) (strd W H N s t a) (strd W H N s t b) := by
 induction k with
 | rf a => exact .rf _
 | @st a m b hab _ ih =>
  have hlt := abM_bnd N N bs' a m hab
  exact .st (by rw [← strd_ab h hW hH hlt.1 hlt.2]; exact hab) ih
theorem LaidB.lift (h : LaidB W H N s t bs bs') (hd : W ∣ N) (hd2 : H ∣ N) (hW : 0 < W) (hH : 0 < H) (hN : 0 < N) : Cl.lift (N + N) (abM N N bs') = [] ↔ Cl.lift (W + H) (abM W H bs) = [] := by
 rw [lift_nilT (abM_bnd N N bs'), lift_nilT (abM_bnd W H bs)]
 constructor
 ·intro k v hv u hu
  obtain ⟨b, hb, eb⟩ := strd_ex (s := s) (t := t) hd hd2 hW hH hN hv
  obtain ⟨a, ha, ea⟩ := strd_ex (s := s) (t := t) hd hd2 hW hH hN hu
  have := strd_fwd h hW hH (k b hb a ha)
  rwa [ea, eb] at this
 ·intro k b hb a ha
  have la := strd_lt (N := N) (s := s) (t := t) hW hH a
  have lb := strd_lt (N := N) (s := s) (t := t) hW hH b
  by_cases e : strd W H N s t a = strd W H N s t b
  ·obtain ⟨c, hc, ce⟩ : ∃ c, c < W + H ∧ strd W H N s t a ≠ c := by
    by_cases e0 : strd W H N s t a = 0
    ·exact ⟨W, by omega, by omega⟩
    ·exact ⟨0, by omega, e0⟩
   obtain ⟨c', hc', ec⟩ := strd_ex (s := s) (t := t) hd hd2 hW hH hN hc
   have k1 := (strd_back h hd hd2 hW hH hN (k c hc _ la) c' hc' ec).2 ce a ha rfl
   have k2 := (strd_back h hd hd2 hW hH hN (k _ lb c hc) b hb rfl).2 (by rw [← e]; exact fun x => ce x.symm) c' hc' ec
   exact k1.tr k2
  ·exact (strd_back h hd hd2 hW hH hN (k _ lb _ la) b hb rfl).2 e a ha rfl
end
end
section
open Go.RowKit
namespace Z
theorem perm_nodupT {α : Type} [DecidableEq α] {a b : List α} (ha : a.Nodup) (hb : b.Nodup) (h : ∀ x, x ∈ a ↔ x ∈ b) : a.Perm b := by
 rw [List.perm_iff_count]
 intro x
 rw [ha.count, hb.count]
 by_cases hx : x ∈ a
 ·rw [if_pos hx, if_pos ((h x).1 hx)]
 ·rw [if_neg hx, if_neg fun e => hx ((h x).2 e)]
theorem sumL_permT {α : Type} {a b : List α} (h : a.Perm b) (f : α → Nat) : sumL a f = sumL b f := by
 induction h with
 | nil => rfl
 | cons x _ ih => rw [sumL_cons, sumL_cons, ih]
 | swap x y l => rw [sumL_cons, sumL_cons, sumL_cons, sumL_cons]; omega
 | trans _ _ h1 h2 => rw [h1, h2]
theorem sumL_mapT {α β : Type} (c : α → β) (f : β → Nat) (l : List α) : sumL (l.map c) f = sumL l (fun x => f (c x)) := by
 unfold sumL
 rw [List.map_map]
 rfl
section
variable {g : Int} {n : Nat} {col : Pt → Int} {L L' : List Mv} {f : Mv}
theorem act_conjT (hg : G g) (hf : okT g f) {m : Mv} (hm : okT g m) (z : Pt) : act g n (redM n (both g (both g f m) (inv g f))) (act g n f z) = act g n f (act g n m z) := by
 have hi := inv_ok hg hf
 have e : Eqm n (To g (redM n (both g (both g f m) (inv g f))) (act g n f z)) (To g (both g (both g f m) (inv g f)) (To g f z)) := ((To_red _ _).symm).trans (To_eqm rfl rfl (Eqm.refl _ _) (eqm_md n _).symm)
 have e2 : To g (both g (both g f m) (inv g f)) (To g f z) = To g f (To g m z) := by
  rw [To_both hg hi, To_both hg hm, ← To_both hg hf (f := inv g f) (h := f), (both_inv hg hf).1, To_idm]
 unfold act
 unfold act at e
 rw [md_eq e, e2]
 exact md_eq (To_eqm rfl rfl (Eqm.refl _ _) (eqm_md n _))
theorem fix_conjT (hg : G g) (hn : 0 < n) (hf : okT g f) {m : Mv} (hm : okT g m) :
  (torusL n).countP (fun z => decide (act g n (redM n (both g (both g f m) (inv g f))) z = z)) = (torusL n).countP (fun z => decide (act g n m z = z)) := by
 have hn2 : (0 : Int) < n := by omega
 have hi := inv_ok hg hf
 have hio : okT g (invM g n f) := hi
 have r1 : ∀ z ∈ torusL n, act g n (invM g n f) (act g n f z) = z := fun z hz => act_inv hg hn2 hf (mem_torus.1 hz)
 have r2 : ∀ z ∈ torusL n, act g n f (act g n (invM g n f) z) = z := fun z hz => by
  rw [← act_mul hg hio, (mulM_inv hg hn2 hf).2]
  exact act_one (mem_torus.1 hz)
 have k := countP_congr_bij (nodup_torus n) (act g n f) (act g n (invM g n f)) (fun z _ => act_mem hn f z) (fun z _ => act_mem hn _ z) r1 r2 (fun z => decide (act g n (redM n (both g (both g f m) (inv g f))) z = z))
 rw [k]
 refine List.countP_congr fun z hz => ?_
 simp only [decide_eq_true_eq]
 rw [act_conjT hg hf hm]
 constructor
 ·intro e
  have := congrArg (act g n (invM g n f)) e
  rw [r1 _ (act_mem hn m z), r1 z hz] at this
  exact this
 ·intro e
  rw [e]
theorem firsts_movedT (hg : G g) (hn : 0 < n) (hp : Per n col) (hf : okT g f) (h : Grp g n col L) (h' : Grp g n (movd g f col) L') : ((torusL n).filter (firstB g n L)).length = ((torusL n).filter (firstB g n L')).length := by
 have hn2 : (0 : Int) < n := by omega
 have hi := inv_ok hg hf
 have hp' : Per (n : Int) (movd g f col) := movd_per hp
 have b1 := grp_burnside hg hn hp h
 have b2 := grp_burnside hg hn hp' h'
 have hl := moved_length hg hn hp hf h h'
 have hnod : (L.map fun m => redM n (both g (both g f m) (inv g f))).Nodup := by
  unfold List.Nodup
  rw [List.pairwise_map]
  refine List.Pairwise.imp_of_mem ?_ h.nod
  intro x y hx hy hne e
  exact hne (conj_inj hg hf (h.ok hx) (h.ok hy) (h.bd hx) (h.bd hy) e)
 have hperm := perm_nodupT hnod h'.nod (fun m => by
  rw [List.mem_map]
  constructor
  ·rintro ⟨x, hx, rfl⟩
   exact h'.red hn2 hp' (both_ok hg _ _) (keep_conj hg hf (h.ok hx) (h.keep hx))
  ·intro hm
   have k := keep_back hg hf (h'.ok hm) (h'.keep hm)
   refine ⟨redM n (both g (both g (inv g f) m) f), h.red hn2 hp (both_ok hg _ _) k, ?_⟩
   have e : both g (both g f (both g (both g (inv g f) m) f)) (inv g f) = m := by
    refine ext_maps hg (both_ok hg _ _) (h'.ok hm) fun z => ?_
    rw [To_both hg hi, To_both hg (both_ok hg _ _), To_both hg hf, To_both hg (h'.ok hm), ← To_both hg hi (f := f) (h := inv g f), (both_inv hg hf).2, To_idm, ← To_both hg hi, (both_inv hg hf).2, To_idm]
   rw [← both_redL, both_redR, both_redL, e, redM_self (h'.bd hm)])
 rw [← sumL_permT hperm, sumL_mapT, sumL_congr (fun m hm => fix_conjT hg hn hf (h.ok hm)), b1, ← hl] at b2
 have hpos : 0 < L.length := List.length_pos_of_mem (h.one hg hn2)
 exact Nat.eq_of_mul_eq_mul_right hpos b2
end
end Z
end
section
open Go.RowKit
def colK (W : Nat) (cs : List Int) (y x : Nat) : Nat := (cs.getD (y * W + x) 0).toNat
def rowB (W : Nat) (cs : List Int) (y : Nat) : Nat → ByteArray
 | 0 => ⟨#[]⟩
 | x + 1 => rowB W cs y x ++ sigS (colK W cs y x)
def botB (W : Nat) (cs : List Int) : Nat → ByteArray
 | 0 => ⟨#[]⟩
 | y + 1 => (rowB W cs y W ++ ⟨#[10]⟩) ++ botB W cs y
def hdB (G : Nat) : ByteArray := if G = 4 then ⟨#[226, 150, 161, 10]⟩ else ⟨#[226, 150, 179, 10]⟩
def printB (G W H : Nat) (cs : List Int) : ByteArray := hdB G ++ botB W cs H
theorem cell_col {W H n x y : Nat} {cs : List Int} (hx : x < W) (hy : y < H) (hC : ∀ x ∈ cs, 0 ≤ x ∧ x < 62) (hl : cs.length = n) (hn : n = W * H) : cellAt W H cs x y = (colK W cs y x : Int) ∧ colK W cs y x < 62 := by
 have hp : y * W + x < cs.length := by
  have h1 : (y + 1) * W ≤ H * W := Nat.mul_le_mul_right W (by omega)
  have h2 : (y + 1) * W = y * W + W := Nat.succ_mul y W
  rw [hl, hn, Nat.mul_comm W H]; omega
 have h3 := hC _ (List.getElem_mem hp)
 have h4 : cs.getD (y * W + x) 0 = cs[y * W + x] := by rw [List.getD_eq_getElem?_getD, List.getElem?_eq_getElem hp]; rfl
 unfold cellAt colK
 rw [Int.emod_eq_of_lt (by omega) (by omega), Int.emod_eq_of_lt (by omega) (by omega), Int.toNat_natCast, Int.toNat_natCast, h4]
 omega
end
section
open Go.RowKit
set_option maxRecDepth 100000 in
set_option maxHeartbeats 8000000 in
theorem okU8 : ElemOk 78 5 1 1 (.int .u8 0) := ⟨rfl, rfl, rfl, by omega⟩
set_option maxRecDepth 100000 in
set_option maxHeartbeats 8000000 in
theorem bld_info : ∃ j, Tryd.prog.info? 103 = some j ∧ j.size = 2 := ⟨_, rfl, rfl⟩
theorem bld_lies : liesAt Tryd.prog Tryd.prog.depth 103 (2 / Tryd.prog.cellsOf 103) 0 103 1 = true := by kernel_rfl
set_option maxRecDepth 100000 in
set_option maxHeartbeats 8000000 in
theorem cc_used (b : Nat) (w : World) (h0 : w.cell? ⟨b, 0, none⟩ = some (.pointer (some ⟨b, 0, none⟩))) :
  Calls Tryd.prog 63 #[.pointer (some ⟨b, 0, none⟩)] w fun e w' => e = .returned (.tuple #[]) ∧ w' = w := by
 obtain ⟨j, hj, _⟩ := bld_info
 go_enter Tryd.func63, Tryd.ntmps63
 go_wp2
 rw [Lib.run_neq_ptr_same w _ Tryd.underlying101 hj]
 go_wp2
 go_end0
 exact ⟨rfl, rfl⟩
set_option maxRecDepth 100000 in
set_option maxHeartbeats 8000000 in
theorem cc_fresh (b : Nat) (w : World) (h0 : w.cell? ⟨b, 0, none⟩ = some (.pointer none)) (hsh : w.shape? b = some (103, 2)) (hfz : w.frozen? ⟨b, 0, none⟩ = false) :
  Calls Tryd.prog 63 #[.pointer (some ⟨b, 0, none⟩)] w fun e w' => e = .returned (.tuple #[]) ∧ w' = w.setCell ⟨b, 0, none⟩ (.pointer (some ⟨b, 0, none⟩)) := by
 obtain ⟨j, hj, hjs⟩ := bld_info
 go_enter Tryd.func63, Tryd.ntmps63
 go_wp2
 rw [Lib.run_to_unsafe w ⟨b, 0, none⟩ Tryd.underlying101 Tryd.underlying174 hj (by rw [hjs]; decide) hsh (Nat.zero_lt_succ 1)]
 simp only [Result.andThen]
 rw [Oper.upon_value]
 go_wp2
 rw [run_callFunc_extern Tryd.func84 (by kernel_rfl) (by kernel_rfl) (by kernel_rfl) (e := Extern.AbiNoEscape.same) (by kernel_rfl)]
 rw [Lib.run_noEscape]
 simp only [Result.andThen]
 rw [Oper.upon_value]
 go_wp2
 rw [Lib.run_from_unsafe w ⟨b, 0, none⟩ Tryd.underlying174 Tryd.underlying101 hj hsh bld_lies]
 simp only [Result.andThen]
 rw [Oper.upon_value]
 go_wp2
 go_end0
 exact ⟨rfl, rfl⟩
set_option maxRecDepth 100000 in
set_option maxHeartbeats 8000000 in
theorem bld_check (B b : Nat) (bs : List Value) (w : World) (h : Lib.IsBuilder 103 5 B b bs w) :
  Calls Tryd.prog 63 #[.pointer (some ⟨b, 0, none⟩)] w fun e w' => e = .returned (.tuple #[]) ∧ (Lib.BuilderAt 103 5 B b (.pointer (some ⟨b, 0, none⟩)) bs w' ∧ Below B w w') := by
 rcases h with h | h
 ·refine (cc_fresh b w h.cell0 h.shape h.frozen0).mono ?_
  rintro e w' ⟨rfl, rfl⟩
  exact ⟨rfl, h.used _, (Below.refl B w).setCell (p := ⟨b, 0, none⟩) h.1 _⟩
 ·refine (cc_used b w h.cell0).mono ?_
  rintro e w' ⟨rfl, rfl⟩
  exact ⟨rfl, h, Below.refl B _⟩
set_option maxRecDepth 100000 in
set_option maxHeartbeats 8000000 in
theorem bld_byte (B b : Nat) (bs : List Value) (c : Nat) (hc : c < 256) (w : World) (h : Lib.IsBuilder 103 5 B b bs w) (hlen : bs.length ≤ 1000000) (hBw : B ≤ w.heap.size) :
  Calls Tryd.prog 44 #[.pointer (some ⟨b, 0, none⟩), .int .u8 c] w fun e w' => e = .returned .nilIface ∧ (Lib.BuilderAt 103 5 B b (.pointer (some ⟨b, 0, none⟩)) (bs ++ [.int .u8 c]) w' ∧ Below B w w') := by
 go_enter Tryd.func44, Tryd.ntmps44
 go_wp2_with (go_at_call 63; refine (bld_check B b bs _ h).mono ?_)
 rintro e w1 ⟨rfl, h1, hb1⟩
 obtain ⟨hB, v, hbk, hown, hne⟩ := h1
 have c0 : w1.cell? ⟨b, 0, none⟩ = some (.pointer (some ⟨b, 0, none⟩)) := by rw [Lib.cell_of_heap hbk]; rfl
 have c1 : w1.cell? ⟨b, 1, none⟩ = some v := by rw [Lib.cell_of_heap hbk]; rfl
 have hlt : b < w1.heap.size := (Array.getElem?_eq_some_iff.1 hbk).1
 have hw1 := hb1.size
 go_wp2_with (at_builtin; go_loud (refine wpAppK okU8 rfl (.tmp 11) (.tmp 13) rfl B v bs.length bs (.int .u8 c) w1.heap.size rfl (hown.alloc _) rfl (World.cell?_alloc_new _ _ _ _) rfl (by omega) (by omega) (by have := World.size_alloc w1 (.cells #[.int .u8 c] 5); omega) ?_))
 intro v' w2 hown' hgrow _
 have hb2 : w2.heap[b]? = some (.cells #[.pointer (some ⟨b, 0, none⟩), v] 103 (0, 0)) := by
  rw [hgrow.block b (by simp; omega) (fun e => hne e.symm), Lib.alloc_old w1 _ b hlt]
  exact hbk
 have d0 : w2.cell? ⟨b, 0, none⟩ = some (.pointer (some ⟨b, 0, none⟩)) := by rw [Lib.cell_of_heap hb2]; rfl
 have d1 : w2.cell? ⟨b, 1, none⟩ = some v := by rw [Lib.cell_of_heap hb2]; rfl
 have f1 : w2.frozen? ⟨b, 1, none⟩ = false := Lib.frozen_of_heap hb2 1
 obtain ⟨g, cap, rfl⟩ := own_some hown' (by omega)
 go_wp2
 go_ret
 refine ⟨rfl, ?_, ?_⟩
 ·exact Lib.BuilderAt.put (T := 103) (e := 5) hB hb2 (bs' := bs ++ [.int .u8 c]) (by simpa using hown') (by decide)
 ·exact ((hb1.alloc (by have := hb1.size; omega) _).grown hgrow (by have := hb1.size; simp; omega) (fun k hk => (hown.lt k hk).1)).setCell (p := ⟨b, 1, none⟩) hB _
end
section
open Go.RowKit
set_option maxRecDepth 100000 in
set_option maxHeartbeats 8000000 in
theorem ana_two (B : Nat) (v : Value) (n : Nat) (xs : List Value) (r : Int) (h0 : 128 ≤ r) (h1 : r ≤ 2047) (w : World) (hown : w.ownsRow B 5 1 v n xs) (hlen : n ≤ 1000000) (hBw : B ≤ w.heap.size) :
  Calls Tryd.prog 85 #[v, .int .i32 r] w fun e w' => ∃ v', e = .returned v' ∧ w'.ownsRow B 5 1 v' (n + 2) (xs ++ [.int .u8 (192 + r / 64), .int .u8 (128 + r % 64)]) ∧ ∃ o, (w.alloc o).grownBy w' v.ownBlock := by
 go_enter Tryd.func85, Tryd.ntmps85
 go_wp2_with (at_builtin; go_loud (refine wpList_append_own _ rfl _ _ 78 rfl B 5 _ (.int .u8 0) 1 1 okU8.1 rfl rfl rfl rfl rfl (by decide) _ _ _ rfl (hown.alloc _) ⟨w.heap.size, 0, none⟩ 2 2 [.int .u8 (192 + r / 64), .int .u8 (128 + r % 64)] rfl rfl ?c1 ?c2 ?c3 ?c4 ?c5 ?_))
 case c1 =>
  intro j u hj
  match j, hj with
  | 0, hj => simp at hj; subst hj; simp [Addr.add]
  | 1, hj => simp at hj; subst hj; simp [Addr.add]
  | (j + 2), hj => simp at hj
 case c2 => intro u hu; simp at hu; rcases hu with rfl | rfl <;> rfl
 case c3 => unfold maxLen; omega
 case c4 => omega
 case c5 => simp; omega
 intro v' w2 hown' hgrow _
 go_wp2
 go_ret
 exact ⟨_, rfl, hown', _, hgrow⟩
set_option maxRecDepth 100000 in
set_option maxHeartbeats 8000000 in
theorem ana_three (B : Nat) (v : Value) (n : Nat) (xs : List Value) (r : Int) (h0 : 2048 ≤ r) (h1 : r < 55296) (w : World) (hown : w.ownsRow B 5 1 v n xs) (hlen : n ≤ 1000000) (hBw : B ≤ w.heap.size) :
  Calls Tryd.prog 85 #[v, .int .i32 r] w fun e w' => ∃ v', e = .returned v' ∧ w'.ownsRow B 5 1 v' (n + 3) (xs ++ [.int .u8 (224 + r / 4096), .int .u8 (128 + r / 64 % 64), .int .u8 (128 + r % 64)]) ∧ ∃ o, (w.alloc o).grownBy w' v.ownBlock := by
 go_enter Tryd.func85, Tryd.ntmps85
 go_wp2_with (at_builtin; go_loud (refine wpList_append_own _ rfl _ _ 78 rfl B 5 _ (.int .u8 0) 1 1 okU8.1 rfl rfl rfl rfl rfl (by decide) _ _ _ rfl (hown.alloc _) ⟨w.heap.size, 0, none⟩ 3 3 [.int .u8 (224 + r / 4096), .int .u8 (128 + r / 64 % 64), .int .u8 (128 + r % 64)] rfl rfl ?c1 ?c2 ?c3 ?c4 ?c5 ?_))
 case c1 =>
  intro j u hj
  match j, hj with
  | 0, hj => simp at hj; subst hj; simp [Addr.add]
  | 1, hj => simp at hj; subst hj; simp [Addr.add]
  | 2, hj => simp at hj; subst hj; simp [Addr.add]
  | (j + 3), hj => simp at hj
 case c2 => intro u hu; simp at hu; rcases hu with rfl | rfl | rfl <;> rfl
 case c3 => unfold maxLen; omega
 case c4 => omega
 case c5 => simp; omega
 intro v' w2 hown' hgrow _
 go_wp2
 go_ret
 exact ⟨_, rfl, hown', _, hgrow⟩
set_option maxRecDepth 100000 in
set_option maxHeartbeats 8000000 in
theorem aRune_ok (B : Nat) (v : Value) (n : Nat) (xs : List Value) (r : Int) (h0 : 0 ≤ r) (h1 : r < 55296) (w : World) (hown : w.ownsRow B 5 1 v n xs) (hlen : n ≤ 1000000) (hBw : B ≤ w.heap.size) :
    Calls Tryd.prog 64 #[v, .int .i32 r] w fun e w' => ∃ v', e = .returned v' ∧ w'.ownsRow B 5 1 v' (n + (Lib.runeCells r).length) (xs ++ Lib.runeCells r) ∧ ∃ o, (w.alloc o).grownBy w' v.ownBlock := by
  by_cases c : r ≤ 127
  · rw [show Lib.runeCells r = [.int .u8 r] by simp [Lib.runeCells, Lib.encodeRuneZ_one h0 c]]
    go_enter Tryd.func64, Tryd.ntmps64
    go_wp2_with (at_builtin; go_loud (refine wpList_append_own _ rfl _ _ 78 rfl B 5 _ (.int .u8 0) 1 1 okU8.1 rfl rfl rfl rfl rfl (by decide) _ _ _ rfl (hown.alloc _) ⟨w.heap.size, 0, none⟩ 1 1 [.int .u8 r] rfl rfl ?c1 ?c2 ?c3 ?c4 ?c5 ?_))
    all_goals first
      | (intro v' w2 hown' hgrow _; go_wp2; go_ret; exact ⟨_, rfl, hown', _, hgrow⟩)
      | (unfold maxLen; omega)
      | omega
      | (simp; omega)
      | rfl
      | (intro u hu; simp at hu; subst hu; rfl)
      | (intro j u hj
         match j, hj with
         | 0, hj => simp at hj; subst hj; simp [Addr.add]
         | (j + 1), hj => simp at hj)
  · have HN : Calls Tryd.prog 85 #[v, .int .i32 r] w fun e w' => ∃ v', e = .returned v' ∧ w'.ownsRow B 5 1 v' (n + (Lib.runeCells r).length) (xs ++ Lib.runeCells r) ∧ ∃ o, (w.alloc o).grownBy w' v.ownBlock := by
      by_cases c2 : r ≤ 2047
      · rw [show Lib.runeCells r = [.int .u8 (192 + r / 64), .int .u8 (128 + r % 64)] by simp [Lib.runeCells, Lib.encodeRuneZ_two (show 128 ≤ r by omega) c2]]
        exact ana_two B v n xs r (by omega) c2 w hown hlen hBw
      · rw [show Lib.runeCells r = [.int .u8 (224 + r / 4096), .int .u8 (128 + r / 64 % 64), .int .u8 (128 + r % 64)] by simp [Lib.runeCells, Lib.encodeRuneZ_three (.inl ⟨show 2048 ≤ r by omega, h1⟩)]]
        exact ana_three B v n xs r (by omega) h1 w hown hlen hBw
    go_enter Tryd.func64, Tryd.ntmps64
    have HN := Lib.hid HN
    have hna : 128 ≤ r := by omega
    go_wp2_with (go_at_call 85; refine HN.out.mono ?_)
    rintro e w1 v' rfl h1 o h2
    go_wp2
    go_ret
    exact ⟨_, rfl, h1, o, h2⟩
set_option maxRecDepth 100000 in
set_option maxHeartbeats 8000000 in
theorem bld_rune (B b : Nat) (bs : List Value) (r : Int) (hr0 : 0 ≤ r) (hr1 : r < 55296) (w : World) (h : Lib.IsBuilder 103 5 B b bs w) (hlen : bs.length ≤ 1000000) (hBw : B ≤ w.heap.size) :
  Calls Tryd.prog 42 #[.pointer (some ⟨b, 0, none⟩), .int .i32 r] w fun e w' => e = .returned (.tuple #[.int .i64 (Lib.runeCells r).length, .nilIface]) ∧ (Lib.BuilderAt 103 5 B b (.pointer (some ⟨b, 0, none⟩)) (bs ++ Lib.runeCells r) w' ∧ Below B w w') := by
 have hk4 := Lib.runeCells_le r
 go_enter Tryd.func42, Tryd.ntmps42
 go_wp2_with (go_at_call 63; refine (bld_check B b bs _ h).mono ?_)
 rintro e w1 ⟨rfl, h1, hb1⟩
 obtain ⟨hB, v, hbk, hown, hne⟩ := h1
 obtain ⟨ao, cap, rfl⟩ : ∃ ao cap, v = .slice ao bs.length cap := by
  rcases hown.2 with ⟨hv, h0⟩ | ⟨g, cap, cur, hv, _⟩
  ·exact ⟨none, 0, by rw [hv, h0]⟩
  ·exact ⟨_, _, hv⟩
 have c0 : w1.cell? ⟨b, 0, none⟩ = some (.pointer (some ⟨b, 0, none⟩)) := by rw [Lib.cell_of_heap hbk]; rfl
 have c1 : w1.cell? ⟨b, 1, none⟩ = some (.slice ao bs.length cap) := by rw [Lib.cell_of_heap hbk]; rfl
 have hlt : b < w1.heap.size := (Array.getElem?_eq_some_iff.1 hbk).1
 go_wp2_with (go_at_call 64; refine (aRune_ok B _ bs.length bs r hr0 hr1 _ hown hlen (by have := hb1.size; omega)).mono ?_)
 rintro e w2 ⟨v', rfl, hown', o, hgrow⟩
 have hb2 : w2.heap[b]? = some (.cells #[.pointer (some ⟨b, 0, none⟩), .slice ao bs.length cap] 103 (0, 0)) := by
  rw [hgrow.block b (by simp; omega) (fun e => hne e.symm), Lib.alloc_old w1 _ b hlt]
  exact hbk
 have d0 : w2.cell? ⟨b, 0, none⟩ = some (.pointer (some ⟨b, 0, none⟩)) := by rw [Lib.cell_of_heap hb2]; rfl
 have d1 : w2.cell? ⟨b, 1, none⟩ = some (.slice ao bs.length cap) := by rw [Lib.cell_of_heap hb2]; rfl
 have f1 : w2.frozen? ⟨b, 1, none⟩ = false := Lib.frozen_of_heap hb2 1
 obtain ⟨ao', cap', rfl⟩ : ∃ ao' cap', v' = .slice ao' (bs.length + (Lib.runeCells r).length) cap' := by
  rcases hown'.2 with ⟨hv, h0⟩ | ⟨g, cap', cur, hv, _⟩
  ·exact ⟨none, 0, by rw [hv, h0]⟩
  ·exact ⟨_, _, hv⟩
 have hsub : IntKind.i64.wrap ((bs.length : Int) + ((Lib.runeCells r).length : Int) - (bs.length : Int)) = ((Lib.runeCells r).length : Int) := by rw [IntWalk.i64_in _ (by omega)]; omega
 go_wp2
 go_ret2
 refine ⟨?_, ?_, ?_⟩
 ·have e : ((bs.length : Int) + ((Lib.runeCells r).length : Int) - (bs.length : Int)) = ((Lib.runeCells r).length : Int) := by omega
  simp [e]
 ·exact Lib.BuilderAt.put (T := 103) (e := 5) hB hb2 (bs' := bs ++ Lib.runeCells r) (by simpa using hown') (by decide)
 ·exact ((hb1.alloc (by have := hb1.size; omega) _).grown hgrow (by have := hb1.size; simp; omega) (fun k hk => (hown.lt k hk).1)).setCell (p := ⟨b, 1, none⟩) hB _
set_option maxRecDepth 100000 in
set_option maxHeartbeats 8000000 in
theorem bld_str (B b : Nat) (bs : List Value) (s : ByteArray) (w : World) (h : Lib.IsBuilder 103 5 B b bs w) (hlen : bs.length + s.size ≤ 1000000) (hBw : B ≤ w.heap.size) :
  Calls Tryd.prog 41 #[.pointer (some ⟨b, 0, none⟩), .string s] w fun e w' => e = .returned (.tuple #[.int .i64 s.size, .nilIface]) ∧ (Lib.BuilderAt 103 5 B b (.pointer (some ⟨b, 0, none⟩)) (bs ++ Lib.strCells s) w' ∧ Below B w w') := by
 go_enter Tryd.func41, Tryd.ntmps41
 go_wp2_with (go_at_call 63; refine (bld_check B b bs _ h).mono ?_)
 rintro e w1 ⟨rfl, h1, hb1⟩
 obtain ⟨hB, v, hbk, hown, hne⟩ := h1
 have c0 : w1.cell? ⟨b, 0, none⟩ = some (.pointer (some ⟨b, 0, none⟩)) := by rw [Lib.cell_of_heap hbk]; rfl
 have c1 : w1.cell? ⟨b, 1, none⟩ = some v := by rw [Lib.cell_of_heap hbk]; rfl
 have hlt : b < w1.heap.size := (Array.getElem?_eq_some_iff.1 hbk).1
 go_wp2_with (at_builtin; go_loud (refine Lib.wpList_append_own_string _ rfl _ _ 78 9 rfl B 5 _ okU8.1 Tryd.underlying9 rfl rfl rfl rfl _ _ _ rfl hown s rfl ?c3 ?c4 ?c5 ?_))
 case c3 => unfold maxLen; omega
 case c4 => omega
 case c5 => have := hb1.size; omega
 intro v' w2 hown' hgrow _
 have hb2 : w2.heap[b]? = some (.cells #[.pointer (some ⟨b, 0, none⟩), v] 103 (0, 0)) := by
  rw [hgrow.block b hlt (fun e => hne e.symm)]
  exact hbk
 have d0 : w2.cell? ⟨b, 0, none⟩ = some (.pointer (some ⟨b, 0, none⟩)) := by rw [Lib.cell_of_heap hb2]; rfl
 have d1 : w2.cell? ⟨b, 1, none⟩ = some v := by rw [Lib.cell_of_heap hb2]; rfl
 have f1 : w2.frozen? ⟨b, 1, none⟩ = false := Lib.frozen_of_heap hb2 1
 obtain ⟨ao, n', cap, rfl⟩ : ∃ ao n' cap, v' = .slice ao n' cap := by
  rcases hown'.2 with ⟨hv, _⟩ | ⟨g, cap, cur, hv, _⟩
  ·exact ⟨_, _, _, hv⟩
  ·exact ⟨_, _, _, hv⟩
 go_wp2
 go_ret2
 refine ⟨rfl, ?_, ?_⟩
 ·exact Lib.BuilderAt.put (T := 103) (e := 5) hB hb2 (bs' := bs ++ Lib.strCells s) (by simpa [Lib.strCells_length] using hown') (by decide)
 ·exact (hb1.grown hgrow (by have := hb1.size; omega) (fun k hk => (hown.lt k hk).1)).setCell (p := ⟨b, 1, none⟩) hB _
set_option maxRecDepth 100000 in
set_option maxHeartbeats 8000000 in
theorem bld_string (B b : Nat) (l : List UInt8) (w : World) (h : Lib.IsBuilder 103 5 B b (Lib.byteCells l) w) (h0 : l ≠ []) :
  Calls Tryd.prog 45 #[.pointer (some ⟨b, 0, none⟩)] w fun e w' => e = .returned (.string ⟨l.toArray⟩) ∧ Below B w w' := by
 obtain ⟨p, hB, v, hbk, hown, hne⟩ : ∃ p, Lib.BuilderAt 103 5 B b p (Lib.byteCells l) w := by
  rcases h with h | h
  ·exact ⟨_, h⟩
  ·exact ⟨_, h⟩
 have hl0 : l.length ≠ 0 := by simpa using h0
 rw [Lib.byteCells_length] at hown
 obtain ⟨g, cap, cur, rfl, hbg, hg, hnc, hcm, hcs, htake⟩ : ∃ g cap cur, v = .slice (some ⟨g, 0, none⟩) l.length cap ∧ B ≤ g ∧ w.heap[g]? = some (.cells cur 5 (0, 0)) ∧ l.length ≤ cap ∧ cap ≤ maxLen ∧ cur.size = cap * 1 ∧ cur.toList.take (l.length * 1) = Lib.byteCells l := by
  rcases hown.2 with ⟨_, hz⟩ | ⟨g, cap, cur, hv, r⟩
  ·exact absurd hz hl0
  ·exact ⟨g, cap, cur, hv, r⟩
 have c1 : w.cell? ⟨b, 1, none⟩ = some (.slice (some ⟨g, 0, none⟩) l.length cap) := by
  rw [Lib.cell_of_heap hbk]; rfl
 have lb : LtW b w := (Array.getElem?_eq_some_iff.1 hbk).1
 have hSD : ∀ W : World, (Builtin.unsafeSliceData_ #[78] 150 #[.slice (some ⟨g, 0, none⟩) l.length cap]).run Tryd.prog W = .ok (.pointer (some ⟨g, 0, none⟩)) W := fun W =>
  Lib.run_unsafeSliceData_row _ _ _ _ _ _ (by omega)
 have hUS : ∀ (E : Array Obj) (d : Nat), (Builtin.unsafeString_ #[150, 3] 9 #[.pointer (some ⟨g, 0, none⟩), .int .i64 l.length]).run Tryd.prog (extW w E d) = .ok (.string ⟨l.toArray⟩) ((extW w E d).freeze ⟨g, 0, none⟩ l.length) := fun E d => by
  have hg' : (extW w E d).heap[g]? = some (.cells cur 5 (0, 0)) := ((bExtW (Below.refl w.heap.size w) (Nat.le_refl _)).block g (Array.getElem?_eq_some_iff.1 hg).1).trans hg
  refine Lib.run_unsafeString_row (extW w E d) 150 3 9 5 Tryd.underlying150 rfl g cur.size (by simp [World.shape?, hg']) l h0 (by omega) (by unfold maxLen at hcm; omega) ?_
  intro j x hx
  have h1 := hown.cells (g := g) rfl j (.int .u8 x.toNat) (by simp [Lib.byteCells, hx])
  have h2 : (extW w E d).cell? ⟨g, j, none⟩ = w.cell? ⟨g, j, none⟩ := by unfold World.cell?; rw [hg', hg]
  rw [Addr.add_lit, Nat.zero_add] at h1
  rw [Addr.add_lit, Nat.zero_add]
  exact h2.trans h1
 clear h hown htake hcs hbk hne
 go_enter Tryd.func45, Tryd.ntmps45
 go_wp2_with fail
 (refine wp_region_ext_tail 10 (by kernel_rfl) (by kernel_rfl) ?_; simp only [List.take_succ_cons, List.take_zero, List.drop_succ_cons, List.drop_zero]; (repeat (first | ((with_reducible refine ext_step (fun K hK => ?_)); go_simp; first | (refine hK _ ?_; clear hK K) | (apply Exists.intro; refine ⟨fun _ _ => ?_, hK _ ?_⟩; fail; clear hK K)))); refine wpQuiet_nil ?_; intro E d)
 go_wp2
 go_ret
 have hBg : B ≤ w.heap.size := Nat.le_trans hB (Nat.le_of_lt lb)
 exact ⟨rfl, Lib.below_freeze (bExtW (Below.refl B w) hBg) (p := ⟨g, 0, none⟩) hbg _⟩
theorem sigS_bytes : ∀ c : Fin 62, (sigS c).data.toList = Lib.encodeRune (signK c) := by decide +kernel
end
section
open Go.RowKit
def rowU (W : Nat) (cs : List Int) (y : Nat) : Nat → List UInt8
 | 0 => []
 | x + 1 => rowU W cs y x ++ Lib.encodeRune (signK (colK W cs y x))
def topL (W H : Nat) (cs : List Int) : Nat → List UInt8
 | 0 => []
 | k + 1 => topL W H cs k ++ rowU W cs (H - 1 - k) W ++ [10]
def hdL (G : Nat) : List UInt8 := if G = 4 then [226, 150, 161, 10] else [226, 150, 179, 10]
theorem rowB_L {W : Nat} {cs : List Int} {y : Nat} (h : ∀ x, x < W → colK W cs y x < 62) : ∀ x, x ≤ W → (rowB W cs y x).data.toList = rowU W cs y x
 | 0, _ => rfl
 | x + 1, hx => by
  have h1 := sigS_bytes ⟨_, h x (by omega)⟩
  simp only [rowB, rowU, ByteArray.data_append, Array.toList_append, rowB_L h x (by omega)]
  rw [h1]
theorem botB_L {W H : Nat} {cs : List Int} (h : ∀ y x, y < H → x < W → colK W cs y x < 62) : ∀ k, k ≤ H → topL W H cs k ++ (botB W cs (H - k)).data.toList = (botB W cs H).data.toList
 | 0, _ => by simp [topL]
 | k + 1, hk => by
  rw [← botB_L h k (by omega)]
  obtain ⟨m, hm⟩ : ∃ m, H - k = m + 1 := ⟨H - k - 1, by omega⟩
  rw [show H - (k + 1) = m by omega, hm]
  simp only [topL, botB, ByteArray.data_append, Array.toList_append, List.append_assoc]
  rw [show H - 1 - k = m by omega, rowB_L (h m · (by omega)) W (Nat.le_refl _)]
theorem print_L {G W H : Nat} {cs : List Int} (h : ∀ y x, y < H → x < W → colK W cs y x < 62) : (printB G W H cs).data.toList = hdL G ++ topL W H cs H := by
 have h1 := botB_L h H (Nat.le_refl _)
 rw [Nat.sub_self] at h1
 unfold printB hdL hdB
 rw [ByteArray.data_append, Array.toList_append, ← h1]
 split <;> simp [botB]
theorem rowU_len {W : Nat} {cs : List Int} {y : Nat} : ∀ x, (rowU W cs y x).length ≤ 4 * x
 | 0 => by simp [rowU]
 | x + 1 => by
  have h1 := rowU_len (W := W) (cs := cs) (y := y) x
  have h2 := Lib.runeCells_le (signK (colK W cs y x))
  rw [Lib.runeCells_length] at h2
  simp only [rowU, List.length_append]
  omega
theorem topL_len {W H : Nat} {cs : List Int} : ∀ k, (topL W H cs k).length ≤ (4 * W + 1) * k
 | 0 => by simp [topL]
 | k + 1 => by
  have h1 := topL_len (W := W) (H := H) (cs := cs) k
  have h2 := rowU_len (W := W) (cs := cs) (y := H - 1 - k) W
  simp only [topL, List.length_append, List.length_singleton]
  rw [Nat.mul_succ]; omega
theorem sign_lt {c : Nat} (h : c < 62) : signK c < 55296 := by
 unfold signK skipK
 split
 ·omega
 ·split
  ·omega
  ·split
   ·omega
   ·split
    ·split <;> omega
    ·omega
end
end Go.Proofs.YtajdoobkfbdgoaaDoor
