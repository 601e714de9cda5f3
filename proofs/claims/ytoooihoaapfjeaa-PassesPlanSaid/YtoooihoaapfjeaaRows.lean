/-
  No cell of these rows narrows 'for every input' (looked for: loops, veiled, ifaces, maps, wideKeys, modest, calm, conditions, laid).
  DERIVED. THE GIVEN ROWS OF THIS SEAT. 3 by the template 'for every input the law returns true; each argument reads behind the call as it read before'; 0 by the template 'total and deterministic' (their statements: YtoooihoaapfjeaaTotals.lean).
  GIVEN WITH THE SEED: the statements are not yours to turn. If you find one false, say at which input.
  Laid BY PROGRAM, IN A SANDBOX (cutbox-rows.mjs): the forced cells as the released guide's own fill.sh prints them over the translation c8aaab96f621a1d2… (all of the seat's roots in one cut). By AI agents, Wed Nov 11 2026. No macro, syntax, notation, axiom, sorry.
-/
import Derived.Test.YtoooihoaapfjeaaChecked
import GoSem.Claim
import GoSem.ClaimJoined
import GoSem.ClaimMapViews
import Derived.JoinedTies
import Derived.KernelRfl
namespace Go.Proofs.Ytoooihoaapfjeaa
/- THE CELL 'sum', in the pinned program and in every row, IS THE sha256 OF THE DUMP (.gsa) THAT YtoooihoaapfjeaaProg.lean LOADS. Nothing in Lean hashes anything: it is a label: what it is worth is what the hold of that sum in a sandbox is worth. -/
noncomputable def Try.pinned : Pinned := { name := "ytoooihoaapfjeaa", sum := "c8aaab96f621a1d2af746e7c9691f08eb361388a11788b88f22379e5858d2e59", checked := Try.checked }
namespace Rows
def none {H : Type} : Left H := { results := [], args := [] }

/-- 'tapestrylaw13.PassesMirrored': WHATEVER THE INPUT: true; the input reads as it did. -/
def passesMirroredSpec : ChangeSpec := { name := "passesMirrored", fn := fun _ => fun
  | [d1, d2, d3] => { results := [.lit (.bool true)], args := [d1, d2, d3] }
  | _ => none }
def passesMirroredRow : OpenClaim := { program := "ytoooihoaapfjeaa", sum := "c8aaab96f621a1d2af746e7c9691f08eb361388a11788b88f22379e5858d2e59", func := "tapestry/tapestrylaw13.PassesMirrored", spec := "passesMirrored", unfollowed := true, recurses := true, apart := false }
def PassesMirroredSaid : Prop := passesMirroredRow.holds Try.pinned (OpenSpec.ofChange passesMirroredSpec)

/-- ITS FALSE NEIGHBOUR: 'it returns false'. Refute it at one input. -/
def passesMirroredWrong : ChangeSpec := { name := "passesMirrored", fn := fun _ => fun
  | [d1, d2, d3] => { results := [.lit (.bool false)], args := [d1, d2, d3] }
  | _ => none }
def PassesMirroredWrongFalsely : Prop := passesMirroredRow.holds Try.pinned (OpenSpec.ofChange passesMirroredWrong)

/-- 'tapestrylaw13.PassesPlan': WHATEVER THE INPUT: true; the input reads as it did. -/
def passesPlanSpec : ChangeSpec := { name := "passesPlan", fn := fun _ => fun
  | [d1, d2, d3, d4] => { results := [.lit (.bool true)], args := [d1, d2, d3, d4] }
  | _ => none }
def passesPlanRow : OpenClaim := { program := "ytoooihoaapfjeaa", sum := "c8aaab96f621a1d2af746e7c9691f08eb361388a11788b88f22379e5858d2e59", func := "tapestry/tapestrylaw13.PassesPlan", spec := "passesPlan", unfollowed := true, recurses := true, apart := false }
def PassesPlanSaid : Prop := passesPlanRow.holds Try.pinned (OpenSpec.ofChange passesPlanSpec)

/-- ITS FALSE NEIGHBOUR: 'it returns false'. Refute it at one input. -/
def passesPlanWrong : ChangeSpec := { name := "passesPlan", fn := fun _ => fun
  | [d1, d2, d3, d4] => { results := [.lit (.bool false)], args := [d1, d2, d3, d4] }
  | _ => none }
def PassesPlanWrongFalsely : Prop := passesPlanRow.holds Try.pinned (OpenSpec.ofChange passesPlanWrong)

/-- 'tapestrylaw13.PassesBest': WHATEVER THE INPUT: true; the input reads as it did. -/
def passesBestSpec : ChangeSpec := { name := "passesBest", fn := fun _ => fun
  | [d1, d2, d3, d4] => { results := [.lit (.bool true)], args := [d1, d2, d3, d4] }
  | _ => none }
def passesBestRow : OpenClaim := { program := "ytoooihoaapfjeaa", sum := "c8aaab96f621a1d2af746e7c9691f08eb361388a11788b88f22379e5858d2e59", func := "tapestry/tapestrylaw13.PassesBest", spec := "passesBest", unfollowed := true, recurses := true, apart := false }
def PassesBestSaid : Prop := passesBestRow.holds Try.pinned (OpenSpec.ofChange passesBestSpec)

/-- ITS FALSE NEIGHBOUR: 'it returns false'. Refute it at one input. -/
def passesBestWrong : ChangeSpec := { name := "passesBest", fn := fun _ => fun
  | [d1, d2, d3, d4] => { results := [.lit (.bool false)], args := [d1, d2, d3, d4] }
  | _ => none }
def PassesBestWrongFalsely : Prop := passesBestRow.holds Try.pinned (OpenSpec.ofChange passesBestWrong)

/- THE SECOND FORM. 'bulk': how many values and letters a reading holds, each counted each time it is reached (what is shared counts as often as it is met; a slice's spare places count too). A statement '..UptoSaid' is the law's where the arguments, and the package variables that the reading takes, are together of bulk at most 1048576: NARROWER than '..Said'. Prove '..Said' where nothing that the law and all that it calls make is longer than what came in: it says more and counts as full. Else prove '..UptoSaid'. A law counts once. -/
mutual
def uptoBulk {H : Type} : DataW H → Nat
  | .lit (.string bytes) => bytes.length + 1
  | .lit _ => 1
  | .nil => 1
  | .ptr d => uptoBulk d + 1
  | .slice elems spare => uptoBulkAll elems + uptoBulkAll spare + 1
  | .agg parts => uptoBulkAll parts + 1
  | .iface _ d => uptoBulk d + 1
  | .map entries => uptoBulkEntries entries + 1
  | .held _ => 1
def uptoBulkAll {H : Type} : List (DataW H) → Nat
  | [] => 0
  | d :: r => uptoBulk d + uptoBulkAll r
def uptoBulkEntries {H : Type} : List (Lit × DataW H) → Nat
  | [] => 0
  | x :: r => uptoBulkEntry x + uptoBulkEntries r
def uptoBulkEntry {H : Type} : Lit × DataW H → Nat
  | (.string bytes, d) => bytes.length + uptoBulk d + 1
  | (_, d) => uptoBulk d + 1
 end
def uptoSmall : (H : Type) → List (DataW H) → Bool := fun _ ds => decide (uptoBulkAll ds ≤ 1048576)
def OpenSpec.upto (s : _root_.Go.ChangeSpec) : _root_.Go.OpenSpec := { _root_.Go.OpenSpec.ofChange s with cond := some uptoSmall }

/-- 'tapestrylaw13.PassesMirrored', WHERE WHAT IT READS IS OF BULK AT MOST 1048576: true; the input reads as it did. -/
def passesMirroredUptoRow : OpenClaim := { program := "ytoooihoaapfjeaa", sum := "c8aaab96f621a1d2af746e7c9691f08eb361388a11788b88f22379e5858d2e59", func := "tapestry/tapestrylaw13.PassesMirrored", spec := "passesMirrored", unfollowed := true, recurses := true, apart := false, narrowed := true }
def PassesMirroredUptoSaid : Prop := passesMirroredUptoRow.holds Try.pinned (OpenSpec.upto passesMirroredSpec)

/-- 'tapestrylaw13.PassesPlan', WHERE WHAT IT READS IS OF BULK AT MOST 1048576: true; the input reads as it did. -/
def passesPlanUptoRow : OpenClaim := { program := "ytoooihoaapfjeaa", sum := "c8aaab96f621a1d2af746e7c9691f08eb361388a11788b88f22379e5858d2e59", func := "tapestry/tapestrylaw13.PassesPlan", spec := "passesPlan", unfollowed := true, recurses := true, apart := false, narrowed := true }
def PassesPlanUptoSaid : Prop := passesPlanUptoRow.holds Try.pinned (OpenSpec.upto passesPlanSpec)

/-- 'tapestrylaw13.PassesBest', WHERE WHAT IT READS IS OF BULK AT MOST 1048576: true; the input reads as it did. -/
def passesBestUptoRow : OpenClaim := { program := "ytoooihoaapfjeaa", sum := "c8aaab96f621a1d2af746e7c9691f08eb361388a11788b88f22379e5858d2e59", func := "tapestry/tapestrylaw13.PassesBest", spec := "passesBest", unfollowed := true, recurses := true, apart := false, narrowed := true }
def PassesBestUptoSaid : Prop := passesBestUptoRow.holds Try.pinned (OpenSpec.upto passesBestSpec)

end Rows
end Go.Proofs.Ytoooihoaapfjeaa
