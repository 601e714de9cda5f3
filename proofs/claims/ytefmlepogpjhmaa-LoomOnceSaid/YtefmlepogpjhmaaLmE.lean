/- Chapter 10: the document's answer, where the loom is opened: what an event does. -/
import Derived.Test.YtefmlepogpjhmaaLmR
namespace Go.Proofs.Ytefmlepogpjhmaa
open Go.RowKit
set_option linter.unusedVariables false
set_option linter.unusedSimpArgs false
open Lm
/-- An event that may come, as the document tells it. -/
theorem tell_told (H : Nat) (ev : Int) (l : St) (d : Dk) (he : 1 ≤ ev ∧ ev ≤ 9) (hd : l.dead = false) (hm : may ev l.at_ = true) :
    tell H ev l d = if 0 ≤ (toldV H ev l).2.1 ∧ d.left = 0 then (0, 11, { l with dead := true }, d) else ((toldV H ev l).2.2.2, 0, (toldV H ev l).1, if 0 ≤ (toldV H ev l).2.1 then ⟨d.ws.set (toldV H ev l).2.1.toNat (toldV H ev l).2.2.1, if 0 < d.left then d.left - 1 else d.left⟩ else d) := by
  have hc : ev = 1 ∨ ev = 2 ∨ ev = 3 ∨ ev = 4 ∨ ev = 5 ∨ ev = 6 ∨ ev = 7 ∨ ev = 8 ∨ ev = 9 := by omega
  have h1 : ¬ (l.dead = true ∨ may ev l.at_ = false) := by rw [hd, hm]; simp
  unfold tell
  rw [if_neg (by omega), if_neg h1]
  by_cases h0 : d.left = 0 <;> rcases hc with rfl | rfl | rfl | rfl | rfl | rfl | rfl | rfl | rfl <;> simp [toldV, put, h0]
/-- Where an event puts a word, and what. -/
theorem told_put (H : Nat) (ev : Int) (l : St) (hw : l.wv ≤ 64) : -1 ≤ (toldV H ev l).2.1 ∧ (toldV H ev l).2.1 ≤ 1 ∧ 0 ≤ (toldV H ev l).2.2.1 ∧ (toldV H ev l).2.2.1 ≤ 65 ∧ 0 ≤ (toldV H ev l).2.2.2 ∧ (toldV H ev l).2.2.2 ≤ 4 := by
  have hn : 0 ≤ (Lm.next H l).1 ∧ (Lm.next H l).1 ≤ 4 := by
    unfold Lm.next
    repeat' split
    all_goals simp
  unfold toldV
  repeat' split
  all_goals (simp only; omega)
/-- All that lies in memory stays within Go's bounds. -/
theorem tell_wf (H : Nat) (ev : Int) (l : St) (d : Dk) (hw : l.wv ≤ 64) (h1 : ∀ x ∈ d.ws, (-9223372036854775808 ≤ x ∧ x ≤ 9223372036854775807)) (h2 : (-9223372036854775808 ≤ d.left ∧ d.left ≤ 9223372036854775807)) : (∀ x ∈ (tell H ev l d).2.2.2.ws, (-9223372036854775808 ≤ x ∧ x ≤ 9223372036854775807)) ∧ (-9223372036854775808 ≤ (tell H ev l d).2.2.2.left ∧ (tell H ev l d).2.2.2.left ≤ 9223372036854775807) := by
  have hp : ∀ (d' : Dk) (i : Nat) (x : Int), 0 ≤ x → x ≤ 65 → put d i x = some d' → (∀ x ∈ d'.ws, (-9223372036854775808 ≤ x ∧ x ≤ 9223372036854775807)) ∧ (-9223372036854775808 ≤ d'.left ∧ d'.left ≤ 9223372036854775807) := fun d' i x hx hx2 h => by
    unfold put at h
    split at h
    · cases h
    · injection h with h
      subst h
      refine ⟨fun y hy => ?_, ?_⟩
      · rcases List.mem_or_eq_of_mem_set hy with h9 | h9
        · exact h1 y h9
        · omega
      · simp only; split <;> omega
  generalize hT : tell H ev l d = T
  unfold tell at hT
  repeat' split at hT
  all_goals subst hT
  all_goals first | exact ⟨h1, h2⟩ | (rename_i h; exact hp _ _ _ (by omega) (by omega) h)
theorem runT_wf {W H : Nat} (bs : List Bool) (ws : List Int) (sc : List Step) (hH : 1 ≤ H) (hH2 : H ≤ 64) (hwf : ∀ x ∈ ws, (-9223372036854775808 ≤ x ∧ x ≤ 9223372036854775807)) : ∀ k, (∀ x ∈ (runT W H bs ws sc k).2.2.ws, (-9223372036854775808 ≤ x ∧ x ≤ 9223372036854775807)) ∧ (-9223372036854775808 ≤ (runT W H bs ws sc k).2.2.left ∧ (runT W H bs ws sc k).2.2.left ≤ 9223372036854775807)
  | 0 => ⟨hwf, by simp [runT]⟩
  | k + 1 => by
    have h := runT_wf bs ws sc hH hH2 hwf k (W := W)
    have hi := (runT_inv bs ws sc hH k (W := W)).1
    simp only [runT, Lm.step]
    generalize (runT W H bs ws sc k).2.1 = l at *
    generalize (runT W H bs ws sc k).2.2 = d at *
    generalize sc.getD k ⟨0, false, 0⟩ = x at *
    have hd : (∀ y ∈ (if x.pw = 0 then d else { d with left := IntKind.i64.wrap (x.pw - 1) } : Dk).ws, (-9223372036854775808 ≤ y ∧ y ≤ 9223372036854775807)) ∧ (-9223372036854775808 ≤ (if x.pw = 0 then d else { d with left := IntKind.i64.wrap (x.pw - 1) } : Dk).left ∧ (if x.pw = 0 then d else { d with left := IntKind.i64.wrap (x.pw - 1) } : Dk).left ≤ 9223372036854775807) := by
      split
      · exact h
      · exact ⟨h.1, wrap_wf _⟩
    generalize (if x.pw = 0 then d else { d with left := IntKind.i64.wrap (x.pw - 1) } : Dk) = d1 at *
    have hl : Ok H (if x.op = true then begin_ H d1.ws else l) := by
      split
      · exact begin_ok hH _
      · exact hi
    generalize (if x.op = true then begin_ H d1.ws else l) = l1 at *
    split
    · exact hd
    · exact tell_wf H x.ev l1 d1 (by have := hl.w; omega) hd.1 hd.2
/-- The code of an 'if' whose test lies in slot k. -/
def findCond (k : Nat) : Code → Option Code
  | .loop c => findCond k c
  | .seq a b => match findCond k a with
    | some c => some c
    | none => findCond k b
  | .block _ c => findCond k c
  | .scope c => findCond k c
  | .cond (.tmp n) a b => match Nat.beq n k with
    | true => some (.cond (.tmp n) a b)
    | false => match findCond k a with
      | some c => some c
      | none => findCond k b
  | _ => none
noncomputable def evCode : Code := ((Try.f6.body.bind (findCond 67)).getD .skip)
set_option maxRecDepth 100000 in
set_option maxHeartbeats 8000000 in
theorem Play_event (W H : Nat) (A : Option Addr) (n c : Nat) (ws : List Int) (w w5 : World) (mb sb g cp xb sp k CO : Nat) (AO : Option Addr) (LS : List Seen) (pw ev : Int) (op be : Bool) (l1 : St) (D1 : Dk) (T : Int × Int × St × Dk)
    (hm : ws.length ≤ 1048576) (hm2 : 2 ≤ ws.length) (hW : W ≤ 64) (hH : H ≤ 64) (hH1 : 1 ≤ H) (hws1 : D1.ws.length = ws.length) (HWF1 : Hid ((∀ x ∈ D1.ws, (-9223372036854775808 ≤ x ∧ x ≤ 9223372036854775807)) ∧ (-9223372036854775808 ≤ D1.left ∧ D1.left ≤ 9223372036854775807))) (HOK1 : Hid (Ok H l1))
    (HX5 : Hid (w5.rowIs xb 34 6 (xF (.slice none 0 0) ⟨0, 0, 0, [], 0, 0⟩))) (HPM5 : Hid (RP mb sb g cp W H A n c D1.ws (sF l1) (.slice AO k CO) LS w w5)) (HST5 : Hid (w5.rowIs sp 53 3 (stF ⟨pw, op, ev⟩)))
    (HX0 : Hid (∀ q, (Value.slice AO k CO).ownBlock = some q → xb ≠ q)) (HMX : Hid (w.heap.size ≤ xb)) (HTT : Hid ((if ev = 0 then (0, 0, l1, D1) else tell H ev l1 D1) = T)) (hbe : (ev != 0) = be)
    {u0 u1 u2 u4 u5 u6 u7 u9 u12 u13 u16 u17 u18 u19 u20 u21 u22 u23 u24 u25 u26 u27 u28 u29 u30 u31 u32 u33 u34 u35 u36 u37 u38 u39 u40 u41 u42 u43 u44 u45 u46 u47 u48 u49 u50 u51 u52 u53 u54 u55 u56 u57 u58 u59 u60 u61 u62 u63 u64 u65 u66 u68 u69 u70 u71 u72 u73 u74 u75 u76 u77 u78 u79 u80 u81 u82 u83 u84 u85 u86 u87 u88 u89 u90 u91 u92 u93 u94 u95 u96 u97 u98 u99 u100 u101 u102 u103 u104 u105 u106 u107 u108 u109 u110 u111 u112 u113 u114 u115 u116 u117 u118 u119 u120 u121 u122 u123 u124 u125 u126 u127 u128 u129 u130 u131 u132 u133 u134 u135 u136 u137 u138 u139 u140 u141 u142 u143 u144 u145 u146 u147 u148 u149 u150 u151 u152 u153 u154 u155 u156 u157 u158 u159 u160 u161 u162 u163 u164 u165 u166 u167 : Value} {J K' : Act → World → Prop} {Q' : Exit → Act → World → Prop}
    (hJ : ∀ a' w', (∃ v11 v16 v18 v19 v20 v21 v22 v39 v40 v41 v42 v43 v44 v45 v46 v47 v48 v49 v50 v51 v52 v53 v54 v55 v56 v57 v58 v59 v60 v61 v62 v63 v64 v65 v66 v67 v68 v69 v70 v71 v72 v73 v74 v75 v76 v77 v78 v79 v80 v81 v82 v83 v84 v85 v86 v87 v88 v89 v90 v91 v92 v93 v94 v95 v96 v97 v98 v99 v100 v101 v102 v103 v104 v105 v106 v107 v108 v109 v110 v111 v112 v113 v114 v115 v116 v117 v118 v119 v120 v121 v122 v123 v124 v125 v126 v127 v128 v129 v130 v131 v132 v133 v134 v135 v136 v137 v138 v139 v140 v141 v142 v143 v144 v145 v146 v147 v148 v149 v150 v151 v152 v153 v154 v155 v156 v157 v158 v159 v160 v161 v162 v163 v164 v165, (v11 = .int .i64 T.2.2.2.left ∧ Hid (RP mb sb g cp W H A n c T.2.2.2.ws (sF T.2.2.1) (.slice AO k CO) LS w w') ∧ Hid (w'.rowIs xb 34 6 (xF (.slice none 0 0) ⟨T.1, 0, 0, [], 0, T.2.1⟩))) ∧ a' = ⟨#[u0, u1, u2, .pointer (some ⟨mb, 0, none⟩), u4, u5, u6, u7, .slice (some ⟨g, 0, none⟩) ws.length cp, u9, .pointer (some ⟨sb, 0, none⟩), v11, u12, u13, .pointer (some ⟨sp, 0, none⟩), .pointer (some ⟨xb, 0, none⟩), v16, u17, v18, v19, v20, v21, v22, u23, u24, u25, u26, u27, u28, u29, u30, u31, u32, u33, u34, u35, u36, u37, u38, v39, v40, v41, v42, v43, v44, v45, v46, v47, v48, v49, v50, v51, v52, v53, v54, v55, v56, v57, v58, v59, v60, v61, v62, v63, v64, v65, v66, v67, v68, v69, v70, v71, v72, v73, v74, v75, v76, v77, v78, v79, v80, v81, v82, v83, v84, v85, v86, v87, v88, v89, v90, v91, v92, v93, v94, v95, v96, v97, v98, v99, v100, v101, v102, v103, v104, v105, v106, v107, v108, v109, v110, v111, v112, v113, v114, v115, v116, v117, v118, v119, v120, v121, v122, v123, v124, v125, v126, v127, v128, v129, v130, v131, v132, v133, v134, v135, v136, v137, v138, v139, v140, v141, v142, v143, v144, v145, v146, v147, v148, v149, v150, v151, v152, v153, v154, v155, v156, v157, v158, v159, v160, v161, v162, v163, v164, v165, u166, u167], []⟩) → J a' w')
    (hM : ∀ a' w', Met J a' w' → K' a' w') : Code.wp Try.prog evCode (Exit.then K' Q') ⟨#[u0, u1, u2, .pointer (some ⟨mb, 0, none⟩), u4, u5, u6, u7, .slice (some ⟨g, 0, none⟩) ws.length cp, u9, .pointer (some ⟨sb, 0, none⟩), .int .i64 D1.left, u12, u13, .pointer (some ⟨sp, 0, none⟩), .pointer (some ⟨xb, 0, none⟩), u16, u17, u18, u19, u20, u21, u22, u23, u24, u25, u26, u27, u28, u29, u30, u31, u32, u33, u34, u35, u36, u37, u38, u39, u40, u41, u42, u43, u44, u45, u46, u47, u48, u49, u50, u51, u52, u53, u54, u55, u56, u57, u58, u59, u60, u61, u62, u63, u64, u65, u66, .bool be, u68, u69, u70, u71, u72, u73, u74, u75, u76, u77, u78, u79, u80, u81, u82, u83, u84, u85, u86, u87, u88, u89, u90, u91, u92, u93, u94, u95, u96, u97, u98, u99, u100, u101, u102, u103, u104, u105, u106, u107, u108, u109, u110, u111, u112, u113, u114, u115, u116, u117, u118, u119, u120, u121, u122, u123, u124, u125, u126, u127, u128, u129, u130, u131, u132, u133, u134, u135, u136, u137, u138, u139, u140, u141, u142, u143, u144, u145, u146, u147, u148, u149, u150, u151, u152, u153, u154, u155, u156, u157, u158, u159, u160, u161, u162, u163, u164, u165, u166, u167], []⟩ w5 := by
  conv => arg 2; whnf
  have s0 : (w5).cell? ⟨sp, 0, none⟩ = some (.int .i64 (pw)) := (HST5.out).cell (i := 0) (by omega)
  have s1 : (w5).cell? ⟨sp, 1, none⟩ = some (.bool op) := (HST5.out).cell (i := 1) (by omega)
  have s2 : (w5).cell? ⟨sp, 2, none⟩ = some (.int .i64 (ev)) := (HST5.out).cell (i := 2) (by omega)
  have ls : LtW sp w5 := (HST5.out).lt
  cases be with
  | true =>
    have hp : ¬ ev = 0 := by intro e; rw [e] at hbe; simp at hbe
    have HTE : Hid (tell H ev l1 D1 = T) := Lib.hid (by rw [← HTT.out, if_neg hp])
    clear hbe hp HTT
    have x0 : (w5).cell? ⟨xb, 0, none⟩ = some (.int .i64 (((⟨0, 0, 0, [], 0, 0⟩ : Seen)).do_)) := (HX5.out).cell (i := 0) (by omega)
    have x1 : (w5).cell? ⟨xb, 1, none⟩ = some (.int .i64 (((⟨0, 0, 0, [], 0, 0⟩ : Seen)).st)) := (HX5.out).cell (i := 1) (by omega)
    have x2 : (w5).cell? ⟨xb, 2, none⟩ = some (.int .i64 (((⟨0, 0, 0, [], 0, 0⟩ : Seen)).wv)) := (HX5.out).cell (i := 2) (by omega)
    have x3 : (w5).cell? ⟨xb, 3, none⟩ = some ((.slice none 0 0)) := (HX5.out).cell (i := 3) (by omega)
    have x4 : (w5).cell? ⟨xb, 4, none⟩ = some (.int .i64 (((⟨0, 0, 0, [], 0, 0⟩ : Seen)).oe)) := (HX5.out).cell (i := 4) (by omega)
    have x5 : (w5).cell? ⟨xb, 5, none⟩ = some (.int .i64 (((⟨0, 0, 0, [], 0, 0⟩ : Seen)).er)) := (HX5.out).cell (i := 5) (by omega)
    have lx : LtW xb w5 := (HX5.out).lt
    simp only at x0 x1 x2 x4 x5
    have fx0 := HX5.out.frozen 0; have fx5 := HX5.out.frozen 5
    by_cases hr1 : ev < 1
    · have HTV : Hid (T = (0, 1, l1, D1)) := Lib.hid (by rw [← HTE.out]; unfold tell; rw [if_pos (.inl hr1)])
      have b1 : decide (ev < 1) = true := by simpa using hr1
      clear hr1 HTE
      go_wp2
      go_meet
      rw [HTV.out]
      exact ⟨rfl, Lib.hid ((((HPM5.out.setX HX5.out HMX.out HX0.out).setX (HX5.out.set 0 (.int .i64 (0))) HMX.out HX0.out)).setX ((HX5.out.set 0 (.int .i64 (0))).set 5 (.int .i64 (9))) HMX.out HX0.out), Lib.hid ((((HX5.out.set 0 (.int .i64 (0))).set 5 (.int .i64 (9))).set 5 (.int .i64 (1))).congr fun i hi => by
        have hi2 : i = 0 ∨ i = 1 ∨ i = 2 ∨ i = 3 ∨ i = 4 ∨ i = 5 := by omega
        rcases hi2 with rfl | rfl | rfl | rfl | rfl | rfl <;> rfl)⟩
    · have b1 : decide (ev < 1) = false := by simpa using hr1
      by_cases hr9 : 9 < ev
      · have HTV : Hid (T = (0, 1, l1, D1)) := Lib.hid (by rw [← HTE.out]; unfold tell; rw [if_pos (.inr hr9)])
        have b2 : decide (9 < ev) = true := by simpa using hr9
        clear hr1 hr9 HTE
        go_wp2
        go_meet
        rw [HTV.out]
        exact ⟨rfl, Lib.hid ((((HPM5.out.setX HX5.out HMX.out HX0.out).setX (HX5.out.set 0 (.int .i64 (0))) HMX.out HX0.out)).setX ((HX5.out.set 0 (.int .i64 (0))).set 5 (.int .i64 (9))) HMX.out HX0.out), Lib.hid ((((HX5.out.set 0 (.int .i64 (0))).set 5 (.int .i64 (9))).set 5 (.int .i64 (1))).congr fun i hi => by
          have hi2 : i = 0 ∨ i = 1 ∨ i = 2 ∨ i = 3 ∨ i = 4 ∨ i = 5 := by omega
          rcases hi2 with rfl | rfl | rfl | rfl | rfl | rfl <;> rfl)⟩
      · have b2 : decide (9 < ev) = false := by simpa using hr9
        have hev : 1 ≤ ev ∧ ev ≤ 9 := by omega
        have HEV := Lib.hid hev
        clear hr1 hr9 hev
        have sb0 : (w5).cell? ⟨sb, 0, none⟩ = some (.int .i64 (((l1).wv : Nat))) := (HPM5.out).s.cell (i := 0) (by omega)
        have sb1 : (w5).cell? ⟨sb, 1, none⟩ = some (.int .i64 (((l1).at_ : Nat))) := (HPM5.out).s.cell (i := 1) (by omega)
        have sb2 : (w5).cell? ⟨sb, 2, none⟩ = some (.bool (l1).stop) := (HPM5.out).s.cell (i := 2) (by omega)
        have sb3 : (w5).cell? ⟨sb, 3, none⟩ = some (.bool (l1).dead) := (HPM5.out).s.cell (i := 3) (by omega)
        have fs0 := (HPM5.out).s.frozen 0
        have fs1 := (HPM5.out).s.frozen 1
        have fs2 := (HPM5.out).s.frozen 2
        have fs3 := (HPM5.out).s.frozen 3
        have lsb : LtW sb w5 := (HPM5.out).s.lt
        go_upto_region 22 with fail
        have hpm6 := (HPM5.out.setX (i := 0) (u := .int .i64 (0)) HX5.out HMX.out HX0.out).setX (i := 5) (u := .int .i64 (9)) (HX5.out.set 0 (.int .i64 (0))) HMX.out HX0.out
        have hx6 := ((HX5.out.set 0 (.int .i64 (0))).set 5 (.int .i64 (9))).congr (g := xF (.slice none 0 0) ⟨0, 0, 0, [], 0, 9⟩) fun i hi => by
          have hi2 : i = 0 ∨ i = 1 ∨ i = 2 ∨ i = 3 ∨ i = 4 ∨ i = 5 := by omega
          rcases hi2 with rfl | rfl | rfl | rfl | rfl | rfl <;> rfl
        have hst6 := (HST5.out.setOther (a := ⟨xb, 0, none⟩) (fun e => by
          have e : sp = xb := e
          have h9 := HST5.out
          rw [e] at h9
          obtain ⟨c1, e1, _⟩ := h9
          exact absurd (ty_ne HX5.out e1) (by decide)) (.int .i64 (0))).setOther (a := ⟨xb, 5, none⟩) (fun e => by
          have e : sp = xb := e
          have h9 := HST5.out
          rw [e] at h9
          obtain ⟨c1, e1, _⟩ := h9
          exact absurd (ty_ne HX5.out e1) (by decide)) (.int .i64 (9))
        clear x0 x1 x2 x3 x4 x5 lx fx0 fx5 s0 s1 s2 ls sb0 sb1 sb2 sb3 fs0 fs1 fs2 fs3 lsb b1 b2
        generalize (w5.setCell ⟨xb, 0, none⟩ (.int .i64 (0))).setCell ⟨xb, 5, none⟩ (.int .i64 (9)) = w6 at *
        have HPM6 := Lib.hid hpm6; have HX6 := Lib.hid hx6; have HST6 := Lib.hid hst6
        clear hpm6 hx6 hst6 HPM5 HX5 HST5
        have sb0 : (w6).cell? ⟨sb, 0, none⟩ = some (.int .i64 (((l1).wv : Nat))) := (HPM6.out).s.cell (i := 0) (by omega)
        have sb1 : (w6).cell? ⟨sb, 1, none⟩ = some (.int .i64 (((l1).at_ : Nat))) := (HPM6.out).s.cell (i := 1) (by omega)
        have sb2 : (w6).cell? ⟨sb, 2, none⟩ = some (.bool (l1).stop) := (HPM6.out).s.cell (i := 2) (by omega)
        have sb3 : (w6).cell? ⟨sb, 3, none⟩ = some (.bool (l1).dead) := (HPM6.out).s.cell (i := 3) (by omega)
        have fs0 := (HPM6.out).s.frozen 0
        have fs1 := (HPM6.out).s.frozen 1
        have fs2 := (HPM6.out).s.frozen 2
        have fs3 := (HPM6.out).s.frozen 3
        have lsb : LtW sb w6 := (HPM6.out).s.lt
        have s0 : (w6).cell? ⟨sp, 0, none⟩ = some (.int .i64 (pw)) := (HST6.out).cell (i := 0) (by omega)
        have s1 : (w6).cell? ⟨sp, 1, none⟩ = some (.bool op) := (HST6.out).cell (i := 1) (by omega)
        have s2 : (w6).cell? ⟨sp, 2, none⟩ = some (.int .i64 (ev)) := (HST6.out).cell (i := 2) (by omega)
        have ls : LtW sp w6 := (HST6.out).lt
        obtain ⟨wv, at_, stop, dead⟩ := l1
        simp only at sb0 sb1 sb2 sb3
        cases dead with
        | true =>
          have HTV : Hid (T = (0, 9, ⟨wv, at_, stop, true⟩, D1)) := Lib.hid (by rw [← HTE.out]; unfold tell; rw [if_neg (by have := HEV.out; omega), if_pos (.inl rfl)])
          clear HTE
          go_wp2
          go_meet
          rw [HTV.out]
          exact ⟨rfl, HPM6, HX6⟩
        | false =>
          go_wp2_with fail
          refine (Allowed_ok ev w6 HEV.out).mono ?_
          rintro r w7 ⟨AL, nL, cL, rfl, hiL, hb7⟩
          have hpm7 := HPM6.out.grow hb7
          have hx7 := rowBelow HX6.out hb7 HX6.out.lt
          have hst7 := rowBelow HST6.out hb7 HST6.out.lt
          have HPM7 := Lib.hid hpm7; have HX7 := Lib.hid hx7; have HST7 := Lib.hid hst7
          have HIL := Lib.hid hiL
          have hnL : nL ≤ 16 := by
            have h9 := hiL.1
            rw [← h9]
            unfold allowL
            repeat' split
            all_goals decide
          clear HPM6 HX6 HST6 hpm7 hx7 hst7 hiL sb0 sb1 sb2 sb3 fs0 fs1 fs2 fs3 lsb s0 s1 s2 ls hb7
          have sb0 : (w7).cell? ⟨sb, 0, none⟩ = some (.int .i64 ((((⟨wv, at_, stop, false⟩ : St)).wv : Nat))) := (HPM7.out).s.cell (i := 0) (by omega)
          have sb1 : (w7).cell? ⟨sb, 1, none⟩ = some (.int .i64 ((((⟨wv, at_, stop, false⟩ : St)).at_ : Nat))) := (HPM7.out).s.cell (i := 1) (by omega)
          have sb2 : (w7).cell? ⟨sb, 2, none⟩ = some (.bool ((⟨wv, at_, stop, false⟩ : St)).stop) := (HPM7.out).s.cell (i := 2) (by omega)
          have sb3 : (w7).cell? ⟨sb, 3, none⟩ = some (.bool ((⟨wv, at_, stop, false⟩ : St)).dead) := (HPM7.out).s.cell (i := 3) (by omega)
          have fs0 := (HPM7.out).s.frozen 0
          have fs1 := (HPM7.out).s.frozen 1
          have fs2 := (HPM7.out).s.frozen 2
          have fs3 := (HPM7.out).s.frozen 3
          have lsb : LtW sb w7 := (HPM7.out).s.lt
          have q0 : (w7).cell? ⟨mb, 0, none⟩ = some (.int .i64 (W)) := (HPM7.out).m.cell (i := 0) (by omega)
          have q1 : (w7).cell? ⟨mb, 1, none⟩ = some (.int .i64 (H)) := (HPM7.out).m.cell (i := 1) (by omega)
          have q2 : (w7).cell? ⟨mb, 2, none⟩ = some (.slice A n c) := (HPM7.out).m.cell (i := 2) (by omega)
          have lmb : LtW mb w7 := (HPM7.out).m.lt
          have s0 : (w7).cell? ⟨sp, 0, none⟩ = some (.int .i64 (pw)) := (HST7.out).cell (i := 0) (by omega)
          have s1 : (w7).cell? ⟨sp, 1, none⟩ = some (.bool op) := (HST7.out).cell (i := 1) (by omega)
          have s2 : (w7).cell? ⟨sp, 2, none⟩ = some (.int .i64 (ev)) := (HST7.out).cell (i := 2) (by omega)
          have ls : LtW sp w7 := (HST7.out).lt
          simp only at sb0 sb1 sb2 sb3
          go_wp2_with fail
          go_loopw [16, 86] (fun bv iv wx => ∃ i : Nat, i ≤ nL ∧ iv = .int .i64 i ∧ bv = .bool (((allowL ev).take i).any (fun x => x == (at_ : Int))) ∧ w7 = wx) (fun _ iv _ => nL - (intOf iv).toNat)
          case atStart => exact ⟨0, by omega, rfl, by simp, rfl⟩
          case round =>
            obtain ⟨i, hi, rfl, rfl, rfl⟩ := hrel
            obtain ⟨ba, hba⟩ : ∃ ba, ((allowL ev).take i).any (fun x => x == (at_ : Int)) = ba := ⟨_, rfl⟩
            by_cases his : i < nL
            · have dk : decide ((i : Int) < (nL : Int)) = true := by simp; omega
              have dk' : decide (i < nL) = true := by simpa using his
              obtain ⟨bI, oI, eI, hbI, hcI⟩ := HIL.out.2 (by omega)
              have ci := hcI i his
              obtain ⟨y, hy⟩ : ∃ y, (allowL ev).getD i 0 = y := ⟨_, rfl⟩
              rw [hy] at ci
              subst eI
              have lbI : LtW bI w7 := hbI
              have HT1 : Hid (((allowL ev).take (i + 1)).any (fun x => x == (at_ : Int)) = (ba || (y == (at_ : Int)))) := Lib.hid (by
                have hl9 : i < (allowL ev).length := by rw [HIL.out.1]; exact his
                rw [List.take_succ_eq_append_getElem hl9, List.any_append, hba]
                rw [List.getD_eq_getElem?_getD, List.getElem?_eq_getElem hl9] at hy
                rw [show (allowL ev)[i] = y from hy]
                simp)
              rw [hba]
              clear hba hy hcI hbI
              cases ba with
              | true =>
                have HT2 : Hid (((allowL ev).take (i + 1)).any (fun x => x == (at_ : Int)) = true) := Lib.hid (by rw [HT1.out]; rfl)
                clear HT1
                go_wp2
                go_roundw
                case rel => exact ⟨i + 1, by omega, by go_num, by rw [HT2.out], trivial⟩
                case measure => simp [intOf]; omega
              | false =>
                have HT2 : Hid (((allowL ev).take (i + 1)).any (fun x => x == (at_ : Int)) = (y == (at_ : Int))) := Lib.hid (by rw [HT1.out]; simp)
                clear HT1
                go_wp2
                go_roundw
                case rel => exact ⟨i + 1, by omega, by go_num, by rw [HT2.out], trivial⟩
                case measure => simp [intOf]; omega
            · obtain rfl : i = nL := by omega
              have dk : decide ((i : Int) < (i : Int)) = false := by simp
              have HMAY : Hid (may ev at_ = ba) := Lib.hid (by
                rw [← hba, ← allow_may HEV.out, ← HIL.out.1, List.take_length])
              rw [hba]
              clear hba
              cases ba with
              | false =>
                have HTV : Hid (T = (0, 9, ⟨wv, at_, stop, false⟩, D1)) := Lib.hid (by rw [← HTE.out]; unfold tell; rw [if_neg (by have := HEV.out; omega), if_pos (.inr HMAY.out)])
                clear HTE HMAY
                go_wp2
                go_meet
                rw [HTV.out]
                exact ⟨rfl, HPM7, HX7⟩
              | true =>
                have HTLD := Lib.hid (tell_told H ev ⟨wv, at_, stop, false⟩ D1 HEV.out rfl HMAY.out)
                rw [HTE.out] at HTLD
                have hpb := told_put H ev ⟨wv, at_, stop, false⟩ (by have := HOK1.out.w; omega)
                go_wp2_with fail
                refine (Told_ok W H A n c ev ⟨wv, at_, stop, false⟩ w7 HEV.out (by have := HOK1.out.w; omega)).mono ?_
                obtain ⟨R, hR⟩ : ∃ R, toldV H ev ⟨wv, at_, stop, false⟩ = R := ⟨_, rfl⟩
                rw [hR] at HTLD hpb ⊢
                clear hR HTE HMAY
                obtain ⟨nx, p, q, o⟩ := R
                obtain ⟨nwv, nat, nstop, ndead⟩ := nx
                simp only at HTLD hpb
                rintro r w8 ⟨rfl, hb8⟩
                have hpm8 := HPM7.out.grow hb8
                have hx8 := rowBelow HX7.out hb8 HX7.out.lt
                have HPM8 := Lib.hid hpm8; have HX8 := Lib.hid hx8
                have hxs : xb ≠ sb := fun e => by
                  have h9 := hpm8.s
                  rw [← e] at h9
                  obtain ⟨c1, e1, _⟩ := h9
                  exact absurd (ty_ne hx8 e1) (by decide)
                have hxg : xb ≠ g := fun e => by
                  obtain ⟨_, _, _, _, cur, e2, _⟩ := own_parts hpm8.own
                  rw [← e] at e2
                  exact absurd (ty_ne hx8 e2) (by decide)
                have hsg : sb ≠ g := fun e => by
                  have h9 := hpm8.s
                  obtain ⟨_, _, _, _, cur, e2, _⟩ := own_parts hpm8.own
                  rw [← e] at e2
                  exact absurd (ty_ne h9 e2) (by decide)
                have HXS := Lib.hid hxs; have HXG := Lib.hid hxg; have HSG := Lib.hid hsg
                clear hb8 hpm8 hx8 hxs hxg hsg HPM7 HX7 HST7 sb0 sb1 sb2 sb3 fs0 fs1 fs2 fs3 lsb s0 s1 s2 ls q0 q1 q2 lmb
                have sb0 : (w8).cell? ⟨sb, 0, none⟩ = some (.int .i64 ((((⟨wv, at_, stop, false⟩ : St)).wv : Nat))) := (HPM8.out).s.cell (i := 0) (by omega)
                have sb1 : (w8).cell? ⟨sb, 1, none⟩ = some (.int .i64 ((((⟨wv, at_, stop, false⟩ : St)).at_ : Nat))) := (HPM8.out).s.cell (i := 1) (by omega)
                have sb2 : (w8).cell? ⟨sb, 2, none⟩ = some (.bool ((⟨wv, at_, stop, false⟩ : St)).stop) := (HPM8.out).s.cell (i := 2) (by omega)
                have sb3 : (w8).cell? ⟨sb, 3, none⟩ = some (.bool ((⟨wv, at_, stop, false⟩ : St)).dead) := (HPM8.out).s.cell (i := 3) (by omega)
                have fs0 := (HPM8.out).s.frozen 0
                have fs1 := (HPM8.out).s.frozen 1
                have fs2 := (HPM8.out).s.frozen 2
                have fs3 := (HPM8.out).s.frozen 3
                have lsb : LtW sb w8 := (HPM8.out).s.lt
                have x0 : (w8).cell? ⟨xb, 0, none⟩ = some (.int .i64 (((⟨0, 0, 0, [], 0, 9⟩ : Seen)).do_)) := (HX8.out).cell (i := 0) (by omega)
                have x1 : (w8).cell? ⟨xb, 1, none⟩ = some (.int .i64 (((⟨0, 0, 0, [], 0, 9⟩ : Seen)).st)) := (HX8.out).cell (i := 1) (by omega)
                have x2 : (w8).cell? ⟨xb, 2, none⟩ = some (.int .i64 (((⟨0, 0, 0, [], 0, 9⟩ : Seen)).wv)) := (HX8.out).cell (i := 2) (by omega)
                have x3 : (w8).cell? ⟨xb, 3, none⟩ = some ((.slice none 0 0)) := (HX8.out).cell (i := 3) (by omega)
                have x4 : (w8).cell? ⟨xb, 4, none⟩ = some (.int .i64 (((⟨0, 0, 0, [], 0, 9⟩ : Seen)).oe)) := (HX8.out).cell (i := 4) (by omega)
                have x5 : (w8).cell? ⟨xb, 5, none⟩ = some (.int .i64 (((⟨0, 0, 0, [], 0, 9⟩ : Seen)).er)) := (HX8.out).cell (i := 5) (by omega)
                have lx : LtW xb w8 := (HX8.out).lt
                simp only at sb0 sb1 sb2 sb3 x0 x1 x2 x4 x5
                have fx0 := HX8.out.frozen 0; have fx5 := HX8.out.frozen 5
                have hp3 : p = -1 ∨ p = 0 ∨ p = 1 := by omega
                obtain ⟨hpb1, hpb2, hpb3, hpb4, hpb5, hpb6⟩ := hpb
                rcases hp3 with rfl | rfl | rfl
                · have HTV : Hid (T = (o, 0, ⟨nwv, nat, nstop, ndead⟩, D1)) := Lib.hid (by rw [HTLD.out, if_neg (by omega), if_neg (by omega)])
                  clear HTLD hpb1 hpb2
                  go_upto_region 37 with fail
                  have hxs := HXS.out
                  have hxs' := HXS.out.symm
                  go_wp2
                  go_meet
                  rw [HTV.out]
                  have hxa := ((((HX8.out.setOther (a := ⟨sb, 0, none⟩) HXS.out (.int .i64 ((nwv : Nat)))).setOther (a := ⟨sb, 1, none⟩) HXS.out (.int .i64 ((nat : Nat)))).setOther (a := ⟨sb, 2, none⟩) HXS.out (.bool nstop)).setOther (a := ⟨sb, 3, none⟩) HXS.out (.bool ndead))
                  have hra := ((((HPM8.out.setS (i := 0) (u := .int .i64 ((nwv : Nat)))).setS (i := 1) (u := .int .i64 ((nat : Nat)))).setS (i := 2) (u := .bool nstop)).setS (i := 3) (u := .bool ndead)).cong (fs' := sF ⟨nwv, nat, nstop, ndead⟩) (fun i hi => by
                    have hi2 : i = 0 ∨ i = 1 ∨ i = 2 ∨ i = 3 := by omega
                    rcases hi2 with rfl | rfl | rfl | rfl <;> rfl)
                  have hrb := (hra.setX (i := 0) (u := .int .i64 (o)) hxa HMX.out HX0.out).setX (i := 5) (u := .int .i64 (0)) (hxa.set 0 (.int .i64 (o))) HMX.out HX0.out
                  have hxb := ((hxa.set 0 (.int .i64 (o))).set 5 (.int .i64 (0))).congr (g := xF (.slice none 0 0) ⟨o, 0, 0, [], 0, 0⟩) fun i hi => by
                    have hi2 : i = 0 ∨ i = 1 ∨ i = 2 ∨ i = 3 ∨ i = 4 ∨ i = 5 := by omega
                    rcases hi2 with rfl | rfl | rfl | rfl | rfl | rfl <;> rfl
                  exact ⟨rfl, Lib.hid (hrb.grow ((Below.refl _ _).alloc (Nat.le_refl _) _)), Lib.hid (hxb.alloc _)⟩
                · skip
                  have hi9 : 0 < D1.ws.length := by rw [hws1]; omega
                  obtain ⟨hcg, hfg⟩ := own_cell HPM8.out.own hi9
                  have lg : LtW g w8 := own_lt HPM8.out.own
                  obtain ⟨y9, hy9⟩ : ∃ y, (D1.ws.map (Value.int .i64))[0]? = some y := ⟨_, List.getElem?_eq_getElem (by simpa using hi9)⟩
                  rw [hy9] at hcg
                  have HI9 := Lib.hid hi9
                  have g1 : ((0 : Int) < (ws.length : Int)) := by omega
                  clear hy9 hi9
                  by_cases h0 : D1.left = 0
                  · have HTV : Hid (T = (0, 11, ⟨wv, at_, stop, true⟩, D1)) := Lib.hid (by rw [HTLD.out, if_pos ⟨by omega, h0⟩])
                    have b0 : (D1.left == 0) = true := by simpa using h0
                    clear HTLD hpb1 hpb2 h0
                    have hxs := HXS.out
                    have hxs' := HXS.out.symm
                    go_wp2
                    go_meet
                    rw [HTV.out]
                    have hxa := HX8.out.setOther (a := ⟨sb, 3, none⟩) HXS.out (.bool true)
                    have hra := (HPM8.out.setS (i := 3) (u := .bool true)).cong (fs' := sF ⟨wv, at_, stop, true⟩) (fun i hi => by
                      have hi2 : i = 0 ∨ i = 1 ∨ i = 2 ∨ i = 3 := by omega
                      rcases hi2 with rfl | rfl | rfl | rfl <;> rfl)
                    have hrb := hra.setX (i := 5) (u := .int .i64 (11)) hxa HMX.out HX0.out
                    have hxb := (hxa.set 5 (.int .i64 (11))).congr (g := xF (.slice none 0 0) ⟨0, 0, 0, [], 0, 11⟩) fun i hi => by
                      have hi2 : i = 0 ∨ i = 1 ∨ i = 2 ∨ i = 3 ∨ i = 4 ∨ i = 5 := by omega
                      rcases hi2 with rfl | rfl | rfl | rfl | rfl | rfl <;> rfl
                    exact ⟨rfl, Lib.hid (hrb.grow ((Below.refl _ _).alloc (Nat.le_refl _) _)), Lib.hid (hxb.alloc _)⟩
                  · have b0 : (D1.left == 0) = false := by simpa using h0
                    have hxs := HXS.out
                    have hxs' := HXS.out.symm
                    have hxg := HXG.out
                    have hxg' := HXG.out.symm
                    have hsg := HSG.out
                    have hsg' := HSG.out.symm
                    by_cases hl : 0 < D1.left
                    · have HTV : Hid (T = (o, 0, ⟨nwv, nat, nstop, ndead⟩, ⟨D1.ws.set 0 q, D1.left - 1⟩)) := Lib.hid (by rw [HTLD.out, if_neg (fun e => h0 e.2), if_pos (by omega), if_pos hl]; rfl)
                      have b1 : decide (0 < D1.left) = true := by simpa using hl
                      have v1 : IntKind.i64.wrap (D1.left - 1) = D1.left - 1 := IntWalk.i64_in _ (by have := HWF1.out.2; omega)
                      have v2 : wrap64 (D1.left - 1) = D1.left - 1 := by unfold wrap64; rw [← IntKind.wrap_i64]; exact v1
                      clear HTLD hpb1 hpb2 h0 hl
                      go_wp2
                      go_meet
                      rw [HTV.out]
                      skip
                      have hxa := (((((HX8.out.setOther (a := ⟨g, 0, none⟩) HXG.out (.int .i64 (q))).setOther (a := ⟨sb, 0, none⟩) HXS.out (.int .i64 ((nwv : Nat)))).setOther (a := ⟨sb, 1, none⟩) HXS.out (.int .i64 ((nat : Nat)))).setOther (a := ⟨sb, 2, none⟩) HXS.out (.bool nstop)).setOther (a := ⟨sb, 3, none⟩) HXS.out (.bool ndead))
                      have hra := (((((HPM8.out.setW (x := q) HI9.out).setS (i := 0) (u := .int .i64 ((nwv : Nat)))).setS (i := 1) (u := .int .i64 ((nat : Nat)))).setS (i := 2) (u := .bool nstop)).setS (i := 3) (u := .bool ndead)).cong (fs' := sF ⟨nwv, nat, nstop, ndead⟩) (fun i hi => by
                        have hi2 : i = 0 ∨ i = 1 ∨ i = 2 ∨ i = 3 := by omega
                        rcases hi2 with rfl | rfl | rfl | rfl <;> rfl)
                      have hrb := (hra.setX (i := 0) (u := .int .i64 (o)) hxa HMX.out HX0.out).setX (i := 5) (u := .int .i64 (0)) (hxa.set 0 (.int .i64 (o))) HMX.out HX0.out
                      have hxb := ((hxa.set 0 (.int .i64 (o))).set 5 (.int .i64 (0))).congr (g := xF (.slice none 0 0) ⟨o, 0, 0, [], 0, 0⟩) fun i hi => by
                        have hi2 : i = 0 ∨ i = 1 ∨ i = 2 ∨ i = 3 ∨ i = 4 ∨ i = 5 := by omega
                        rcases hi2 with rfl | rfl | rfl | rfl | rfl | rfl <;> rfl
                      exact ⟨rfl, Lib.hid (hrb.grow ((Below.refl _ _).alloc (Nat.le_refl _) _)), Lib.hid (hxb.alloc _)⟩
                    · have HTV : Hid (T = (o, 0, ⟨nwv, nat, nstop, ndead⟩, ⟨D1.ws.set 0 q, D1.left⟩)) := Lib.hid (by rw [HTLD.out, if_neg (fun e => h0 e.2), if_pos (by omega), if_neg hl]; rfl)
                      have b1 : decide (0 < D1.left) = false := by simpa using hl
                      clear HTLD hpb1 hpb2 h0 hl
                      go_wp2
                      go_meet
                      rw [HTV.out]
                      skip
                      have hxa := (((((HX8.out.setOther (a := ⟨g, 0, none⟩) HXG.out (.int .i64 (q))).setOther (a := ⟨sb, 0, none⟩) HXS.out (.int .i64 ((nwv : Nat)))).setOther (a := ⟨sb, 1, none⟩) HXS.out (.int .i64 ((nat : Nat)))).setOther (a := ⟨sb, 2, none⟩) HXS.out (.bool nstop)).setOther (a := ⟨sb, 3, none⟩) HXS.out (.bool ndead))
                      have hra := (((((HPM8.out.setW (x := q) HI9.out).setS (i := 0) (u := .int .i64 ((nwv : Nat)))).setS (i := 1) (u := .int .i64 ((nat : Nat)))).setS (i := 2) (u := .bool nstop)).setS (i := 3) (u := .bool ndead)).cong (fs' := sF ⟨nwv, nat, nstop, ndead⟩) (fun i hi => by
                        have hi2 : i = 0 ∨ i = 1 ∨ i = 2 ∨ i = 3 := by omega
                        rcases hi2 with rfl | rfl | rfl | rfl <;> rfl)
                      have hrb := (hra.setX (i := 0) (u := .int .i64 (o)) hxa HMX.out HX0.out).setX (i := 5) (u := .int .i64 (0)) (hxa.set 0 (.int .i64 (o))) HMX.out HX0.out
                      have hxb := ((hxa.set 0 (.int .i64 (o))).set 5 (.int .i64 (0))).congr (g := xF (.slice none 0 0) ⟨o, 0, 0, [], 0, 0⟩) fun i hi => by
                        have hi2 : i = 0 ∨ i = 1 ∨ i = 2 ∨ i = 3 ∨ i = 4 ∨ i = 5 := by omega
                        rcases hi2 with rfl | rfl | rfl | rfl | rfl | rfl <;> rfl
                      exact ⟨rfl, Lib.hid (hrb.grow ((Below.refl _ _).alloc (Nat.le_refl _) _)), Lib.hid (hxb.alloc _)⟩
                · skip
                  have hi9 : 1 < D1.ws.length := by rw [hws1]; omega
                  obtain ⟨hcg, hfg⟩ := own_cell HPM8.out.own hi9
                  have lg : LtW g w8 := own_lt HPM8.out.own
                  obtain ⟨y9, hy9⟩ : ∃ y, (D1.ws.map (Value.int .i64))[1]? = some y := ⟨_, List.getElem?_eq_getElem (by simpa using hi9)⟩
                  rw [hy9] at hcg
                  have HI9 := Lib.hid hi9
                  have g1 : ((1 : Int) < (ws.length : Int)) := by omega
                  clear hy9 hi9
                  by_cases h0 : D1.left = 0
                  · have HTV : Hid (T = (0, 11, ⟨wv, at_, stop, true⟩, D1)) := Lib.hid (by rw [HTLD.out, if_pos ⟨by omega, h0⟩])
                    have b0 : (D1.left == 0) = true := by simpa using h0
                    clear HTLD hpb1 hpb2 h0
                    have hxs := HXS.out
                    have hxs' := HXS.out.symm
                    go_wp2
                    go_meet
                    rw [HTV.out]
                    have hxa := HX8.out.setOther (a := ⟨sb, 3, none⟩) HXS.out (.bool true)
                    have hra := (HPM8.out.setS (i := 3) (u := .bool true)).cong (fs' := sF ⟨wv, at_, stop, true⟩) (fun i hi => by
                      have hi2 : i = 0 ∨ i = 1 ∨ i = 2 ∨ i = 3 := by omega
                      rcases hi2 with rfl | rfl | rfl | rfl <;> rfl)
                    have hrb := hra.setX (i := 5) (u := .int .i64 (11)) hxa HMX.out HX0.out
                    have hxb := (hxa.set 5 (.int .i64 (11))).congr (g := xF (.slice none 0 0) ⟨0, 0, 0, [], 0, 11⟩) fun i hi => by
                      have hi2 : i = 0 ∨ i = 1 ∨ i = 2 ∨ i = 3 ∨ i = 4 ∨ i = 5 := by omega
                      rcases hi2 with rfl | rfl | rfl | rfl | rfl | rfl <;> rfl
                    exact ⟨rfl, Lib.hid (hrb.grow ((Below.refl _ _).alloc (Nat.le_refl _) _)), Lib.hid (hxb.alloc _)⟩
                  · have b0 : (D1.left == 0) = false := by simpa using h0
                    have hxs := HXS.out
                    have hxs' := HXS.out.symm
                    have hxg := HXG.out
                    have hxg' := HXG.out.symm
                    have hsg := HSG.out
                    have hsg' := HSG.out.symm
                    by_cases hl : 0 < D1.left
                    · have HTV : Hid (T = (o, 0, ⟨nwv, nat, nstop, ndead⟩, ⟨D1.ws.set 1 q, D1.left - 1⟩)) := Lib.hid (by rw [HTLD.out, if_neg (fun e => h0 e.2), if_pos (by omega), if_pos hl]; rfl)
                      have b1 : decide (0 < D1.left) = true := by simpa using hl
                      have v1 : IntKind.i64.wrap (D1.left - 1) = D1.left - 1 := IntWalk.i64_in _ (by have := HWF1.out.2; omega)
                      have v2 : wrap64 (D1.left - 1) = D1.left - 1 := by unfold wrap64; rw [← IntKind.wrap_i64]; exact v1
                      clear HTLD hpb1 hpb2 h0 hl
                      go_wp2
                      go_meet
                      rw [HTV.out]
                      skip
                      have hxa := (((((HX8.out.setOther (a := ⟨g, 1, none⟩) HXG.out (.int .i64 (q))).setOther (a := ⟨sb, 0, none⟩) HXS.out (.int .i64 ((nwv : Nat)))).setOther (a := ⟨sb, 1, none⟩) HXS.out (.int .i64 ((nat : Nat)))).setOther (a := ⟨sb, 2, none⟩) HXS.out (.bool nstop)).setOther (a := ⟨sb, 3, none⟩) HXS.out (.bool ndead))
                      have hra := (((((HPM8.out.setW (x := q) HI9.out).setS (i := 0) (u := .int .i64 ((nwv : Nat)))).setS (i := 1) (u := .int .i64 ((nat : Nat)))).setS (i := 2) (u := .bool nstop)).setS (i := 3) (u := .bool ndead)).cong (fs' := sF ⟨nwv, nat, nstop, ndead⟩) (fun i hi => by
                        have hi2 : i = 0 ∨ i = 1 ∨ i = 2 ∨ i = 3 := by omega
                        rcases hi2 with rfl | rfl | rfl | rfl <;> rfl)
                      have hrb := (hra.setX (i := 0) (u := .int .i64 (o)) hxa HMX.out HX0.out).setX (i := 5) (u := .int .i64 (0)) (hxa.set 0 (.int .i64 (o))) HMX.out HX0.out
                      have hxb := ((hxa.set 0 (.int .i64 (o))).set 5 (.int .i64 (0))).congr (g := xF (.slice none 0 0) ⟨o, 0, 0, [], 0, 0⟩) fun i hi => by
                        have hi2 : i = 0 ∨ i = 1 ∨ i = 2 ∨ i = 3 ∨ i = 4 ∨ i = 5 := by omega
                        rcases hi2 with rfl | rfl | rfl | rfl | rfl | rfl <;> rfl
                      exact ⟨rfl, Lib.hid (hrb.grow ((Below.refl _ _).alloc (Nat.le_refl _) _)), Lib.hid (hxb.alloc _)⟩
                    · have HTV : Hid (T = (o, 0, ⟨nwv, nat, nstop, ndead⟩, ⟨D1.ws.set 1 q, D1.left⟩)) := Lib.hid (by rw [HTLD.out, if_neg (fun e => h0 e.2), if_pos (by omega), if_neg hl]; rfl)
                      have b1 : decide (0 < D1.left) = false := by simpa using hl
                      clear HTLD hpb1 hpb2 h0 hl
                      go_wp2
                      go_meet
                      rw [HTV.out]
                      skip
                      have hxa := (((((HX8.out.setOther (a := ⟨g, 1, none⟩) HXG.out (.int .i64 (q))).setOther (a := ⟨sb, 0, none⟩) HXS.out (.int .i64 ((nwv : Nat)))).setOther (a := ⟨sb, 1, none⟩) HXS.out (.int .i64 ((nat : Nat)))).setOther (a := ⟨sb, 2, none⟩) HXS.out (.bool nstop)).setOther (a := ⟨sb, 3, none⟩) HXS.out (.bool ndead))
                      have hra := (((((HPM8.out.setW (x := q) HI9.out).setS (i := 0) (u := .int .i64 ((nwv : Nat)))).setS (i := 1) (u := .int .i64 ((nat : Nat)))).setS (i := 2) (u := .bool nstop)).setS (i := 3) (u := .bool ndead)).cong (fs' := sF ⟨nwv, nat, nstop, ndead⟩) (fun i hi => by
                        have hi2 : i = 0 ∨ i = 1 ∨ i = 2 ∨ i = 3 := by omega
                        rcases hi2 with rfl | rfl | rfl | rfl <;> rfl)
                      have hrb := (hra.setX (i := 0) (u := .int .i64 (o)) hxa HMX.out HX0.out).setX (i := 5) (u := .int .i64 (0)) (hxa.set 0 (.int .i64 (o))) HMX.out HX0.out
                      have hxb := ((hxa.set 0 (.int .i64 (o))).set 5 (.int .i64 (0))).congr (g := xF (.slice none 0 0) ⟨o, 0, 0, [], 0, 0⟩) fun i hi => by
                        have hi2 : i = 0 ∨ i = 1 ∨ i = 2 ∨ i = 3 ∨ i = 4 ∨ i = 5 := by omega
                        rcases hi2 with rfl | rfl | rfl | rfl | rfl | rfl <;> rfl
                      exact ⟨rfl, Lib.hid (hrb.grow ((Below.refl _ _).alloc (Nat.le_refl _) _)), Lib.hid (hxb.alloc _)⟩
  | false =>
    have hp : ev = 0 := by simpa using hbe
    have HTE : Hid ((0, 0, l1, D1) = T) := Lib.hid (by rw [← HTT.out, if_pos hp])
    clear hbe hp
    go_wp2
    go_meet
    rw [← HTE.out]
    exact ⟨rfl, HPM5, HX5⟩
end Go.Proofs.Ytefmlepogpjhmaa
