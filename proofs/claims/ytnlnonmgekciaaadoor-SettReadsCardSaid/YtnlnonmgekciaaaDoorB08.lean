/- Lemmas on which the law of this seat rests; each states its own conditions. -/
import Derived.Test.YtnlnonmgekciaaaDoorB06
import Derived.Test.YtnlnonmgekciaaaDoorB07
import Derived.Test.YtnlnonmgekciaaaDoorB01
import Derived.ProofKit
import Derived.OpenShut
import Derived.ShutString
import Derived.ChangeOld
import Derived.Below
import Derived.Lib.SmallJoins
import Derived.Deep.Strs
set_option linter.unusedVariables false
set_option linter.unusedSimpArgs false
namespace Go.Proofs.YtnlnonmgekciaaaDoor
section
open Go.RowKit
open Se
open By (bytesOf)
set_option maxRecDepth 100000 in
set_option maxHeartbeats 8000000 in
theorem sreads_gen (s : ByteArray) (w : World) (hT : Tabs w) (pv : Bool) (l : List St) (n : Nat) (e p : Int) (hn : n ≤ 9223372036854775807)
  (K1 : Hid (∀ w, Tabs w → Calls Tryd.prog 17 #[.string s] w fun r w' => (∃ A C, r = .returned (.tuple #[.agg #[.bool pv, .slice A n C], .agg #[.int .i64 (e), .int .i64 (p)]]) ∧ IsStr w' A n l) ∧ Below w.heap.size w w'))
  (K2 : Hid (∀ w, Calls Tryd.prog 18 #[.string s] w fun r w' => (∃ A C, r = .returned (.tuple #[.agg #[.bool pv, .slice A n C], .agg #[.int .i64 (e), .int .i64 (p)]]) ∧ IsStr w' A n l) ∧ Below w.heap.size w w')) :
  Calls Tryd.prog 4 #[.string s] w fun r w' => r = .returned (.bool true) ∧ Below w.heap.size w w' := by
 have HT := Lib.hid hT
 have e1 : (e == e) = true := by simp
 have e2 : (p == p) = true := by simp
 clear hT
 go_enter Tryd.func4, Tryd.ntmps4
 go_wp2_with fail
 refine (K1.out _ (HT.out.below blw)).mono ?_
 rintro r w1 ⟨⟨A1, C1, rfl, h1⟩, hb⟩
 obtain ⟨E1, d1, rfl⟩ := bExt hb
 have H1 := Lib.hid h1
 clear h1 hb K1 HT
 go_wp2_with fail
 refine (K2.out _).mono ?_
 rintro r w1 ⟨⟨A2, C2, rfl, h2⟩, hb⟩
 obtain ⟨E2, d2, rfl⟩ := bExt hb
 have H2 := Lib.hid h2
 clear h2 hb K2
 go_wp2_with fail
 refine (rSame_self pv l A1 A2 n C1 C2 _ (H1.out.below blw) (H2.out.below blw) hn).mono ?_
 rintro r w1 ⟨rfl, hb⟩
 obtain ⟨E3, d3, rfl⟩ := bExt hb
 clear hb
 go_wp2
 go_ret
 exact ⟨rfl, blw⟩
theorem sreads_walk (s : ByteArray) (w : World) (hs : s.size ≤ 9223372036854775807) (hT : Tabs w) :
  Calls Tryd.prog 4 #[.string s] w fun r w' => r = .returned (.bool true) ∧ Below w.heap.size w w' := by
 have K1 := fun w hT => seRead_any s w hs hT
 have K2 := fun w => rSeRead_any s w hs
 unfold SePost at K1 K2
 cases hR : readSe (bytesOf s) with
 | bad e p =>
  rw [hR] at K1 K2
  refine sreads_gen s w hT false [] 0 e p (by omega) (Lib.hid fun w hT => (K1 w hT).mono ?_) (Lib.hid fun w => (K2 w).mono ?_)
  all_goals
   rintro r w' ⟨rfl, hb⟩
   exact ⟨⟨none, 0, rfl, IsStr.nil _⟩, hb⟩
 | ok pv l =>
  rw [hR] at K1 K2
  have hl := print_readS (By.bytesOf_lt s) hR
  have hz := (wrS_zero hl.2).2.1
  exact sreads_gen s w hT pv l l.length 0 0 (by omega) (Lib.hid K1) (Lib.hid K2)
end
section
open Go.ChangeShapes Go.WideShapes Go.ChangeAt Go.RowKit Go.Joins
open Go.ChangeMaps (open_string shut_string)
set_option maxRecDepth 100000
section
variable {H : Type} {enc : TypeId × Value → H} {W : World} {base b0 : Nat} {spare : Addr → Bool} {held : Bool} {v : Value} {d : DataW H} {p : List MemPlace}
end
end
end Go.Proofs.YtnlnonmgekciaaaDoor
