/-
  No cell of these rows narrows 'for every input' (looked for: loops, veiled, ifaces, maps, wideKeys, modest, calm, conditions, laid).
  DERIVED. THE GIVEN ROWS OF THIS SEAT. 6 by the template 'for every input the law returns true; each argument reads behind the call as it read before'; 0 by the template 'total and deterministic' (their statements: YtnjheiiohfhckaaTotals.lean).
  GIVEN WITH THE SEED: the statements are not yours to turn. If you find one false, say at which input.
  Laid BY PROGRAM, IN A SANDBOX (cutbox-rows.mjs): the forced cells as the released guide's own fill.sh prints them over the translation 67d7647dc8189a51… (all of the seat's roots in one cut). By AI agents, Wed Nov 11 2026. No macro, syntax, notation, axiom, sorry.
-/
import Derived.Test.YtnjheiiohfhckaaChecked
import GoSem.Claim
import GoSem.ClaimJoined
import GoSem.ClaimMapViews
import Derived.JoinedTies
import Derived.KernelRfl
namespace Go.Proofs.Ytnjheiiohfhckaa
/- THE CELL 'sum', in the pinned program and in every row, IS THE sha256 OF THE DUMP (.gsa) THAT YtnjheiiohfhckaaProg.lean LOADS. Nothing in Lean hashes anything: it is a label: what it is worth is what the hold of that sum in a sandbox is worth. -/
noncomputable def Try.pinned : Pinned := { name := "ytnjheiiohfhckaa", sum := "67d7647dc8189a51ad8026b97d2874d9a9129dbacfcaa5864abb6de3bc2e17c0", checked := Try.checked }
namespace Rows
def none {H : Type} : Left H := { results := [], args := [] }

/-- 'tapestrylaw17.MillGraham': WHATEVER THE INPUT: true; the input reads as it did. -/
def millGrahamSpec : ChangeSpec := { name := "millGraham", fn := fun _ => fun
  | [d1, d2] => { results := [.lit (.bool true)], args := [d1, d2] }
  | _ => none }
def millGrahamRow : OpenClaim := { program := "ytnjheiiohfhckaa", sum := "67d7647dc8189a51ad8026b97d2874d9a9129dbacfcaa5864abb6de3bc2e17c0", func := "tapestry/tapestrylaw17.MillGraham", spec := "millGraham", apart := false }
def MillGrahamSaid : Prop := millGrahamRow.holds Try.pinned (OpenSpec.ofChange millGrahamSpec)

/-- ITS FALSE NEIGHBOUR: 'it returns false'. Refute it at one input. -/
def millGrahamWrong : ChangeSpec := { name := "millGraham", fn := fun _ => fun
  | [d1, d2] => { results := [.lit (.bool false)], args := [d1, d2] }
  | _ => none }
def MillGrahamWrongFalsely : Prop := millGrahamRow.holds Try.pinned (OpenSpec.ofChange millGrahamWrong)

/-- 'tapestrylaw1.PlaneRing': WHATEVER THE INPUT: true; the input reads as it did. -/
def planeRingSpec : ChangeSpec := { name := "planeRing", fn := fun _ => fun
  | [d1, d2, d3, d4] => { results := [.lit (.bool true)], args := [d1, d2, d3, d4] }
  | _ => none }
def planeRingRow : OpenClaim := { program := "ytnjheiiohfhckaa", sum := "67d7647dc8189a51ad8026b97d2874d9a9129dbacfcaa5864abb6de3bc2e17c0", func := "tapestry/tapestrylaw1.PlaneRing", spec := "planeRing", apart := false }
def PlaneRingSaid : Prop := planeRingRow.holds Try.pinned (OpenSpec.ofChange planeRingSpec)

/-- ITS FALSE NEIGHBOUR: 'it returns false'. Refute it at one input. -/
def planeRingWrong : ChangeSpec := { name := "planeRing", fn := fun _ => fun
  | [d1, d2, d3, d4] => { results := [.lit (.bool false)], args := [d1, d2, d3, d4] }
  | _ => none }
def PlaneRingWrongFalsely : Prop := planeRingRow.holds Try.pinned (OpenSpec.ofChange planeRingWrong)

/-- 'tapestrylaw1.PlaneGcd': WHATEVER THE INPUT: true; the input reads as it did. -/
def planeGcdSpec : ChangeSpec := { name := "planeGcd", fn := fun _ => fun
  | [d1, d2, d3, d4] => { results := [.lit (.bool true)], args := [d1, d2, d3, d4] }
  | _ => none }
def planeGcdRow : OpenClaim := { program := "ytnjheiiohfhckaa", sum := "67d7647dc8189a51ad8026b97d2874d9a9129dbacfcaa5864abb6de3bc2e17c0", func := "tapestry/tapestrylaw1.PlaneGcd", spec := "planeGcd", apart := false }
def PlaneGcdSaid : Prop := planeGcdRow.holds Try.pinned (OpenSpec.ofChange planeGcdSpec)

/-- ITS FALSE NEIGHBOUR: 'it returns false'. Refute it at one input. -/
def planeGcdWrong : ChangeSpec := { name := "planeGcd", fn := fun _ => fun
  | [d1, d2, d3, d4] => { results := [.lit (.bool false)], args := [d1, d2, d3, d4] }
  | _ => none }
def PlaneGcdWrongFalsely : Prop := planeGcdRow.holds Try.pinned (OpenSpec.ofChange planeGcdWrong)

/-- 'tapestrylaw1.PlaneReckons': WHATEVER THE INPUT: true; the input reads as it did. -/
def planeReckonsSpec : ChangeSpec := { name := "planeReckons", fn := fun _ => fun
  | [d1, d2, d3] => { results := [.lit (.bool true)], args := [d1, d2, d3] }
  | _ => none }
def planeReckonsRow : OpenClaim := { program := "ytnjheiiohfhckaa", sum := "67d7647dc8189a51ad8026b97d2874d9a9129dbacfcaa5864abb6de3bc2e17c0", func := "tapestry/tapestrylaw1.PlaneReckons", spec := "planeReckons", apart := false }
def PlaneReckonsSaid : Prop := planeReckonsRow.holds Try.pinned (OpenSpec.ofChange planeReckonsSpec)

/-- ITS FALSE NEIGHBOUR: 'it returns false'. Refute it at one input. -/
def planeReckonsWrong : ChangeSpec := { name := "planeReckons", fn := fun _ => fun
  | [d1, d2, d3] => { results := [.lit (.bool false)], args := [d1, d2, d3] }
  | _ => none }
def PlaneReckonsWrongFalsely : Prop := planeReckonsRow.holds Try.pinned (OpenSpec.ofChange planeReckonsWrong)

/-- 'tapestrylaw1.PlaneMoves': WHATEVER THE INPUT: true; the input reads as it did. -/
def planeMovesSpec : ChangeSpec := { name := "planeMoves", fn := fun _ => fun
  | [d1, d2, d3, d4] => { results := [.lit (.bool true)], args := [d1, d2, d3, d4] }
  | _ => none }
def planeMovesRow : OpenClaim := { program := "ytnjheiiohfhckaa", sum := "67d7647dc8189a51ad8026b97d2874d9a9129dbacfcaa5864abb6de3bc2e17c0", func := "tapestry/tapestrylaw1.PlaneMoves", spec := "planeMoves", apart := false }
def PlaneMovesSaid : Prop := planeMovesRow.holds Try.pinned (OpenSpec.ofChange planeMovesSpec)

/-- ITS FALSE NEIGHBOUR: 'it returns false'. Refute it at one input. -/
def planeMovesWrong : ChangeSpec := { name := "planeMoves", fn := fun _ => fun
  | [d1, d2, d3, d4] => { results := [.lit (.bool false)], args := [d1, d2, d3, d4] }
  | _ => none }
def PlaneMovesWrongFalsely : Prop := planeMovesRow.holds Try.pinned (OpenSpec.ofChange planeMovesWrong)

/-- 'tapestrylaw1.PlaneGroup': WHATEVER THE INPUT: true; the input reads as it did. -/
def planeGroupSpec : ChangeSpec := { name := "planeGroup", fn := fun _ => fun
  | [d1, d2, d3, d4, d5, d6] => { results := [.lit (.bool true)], args := [d1, d2, d3, d4, d5, d6] }
  | _ => none }
def planeGroupRow : OpenClaim := { program := "ytnjheiiohfhckaa", sum := "67d7647dc8189a51ad8026b97d2874d9a9129dbacfcaa5864abb6de3bc2e17c0", func := "tapestry/tapestrylaw1.PlaneGroup", spec := "planeGroup", apart := false }
def PlaneGroupSaid : Prop := planeGroupRow.holds Try.pinned (OpenSpec.ofChange planeGroupSpec)

/-- ITS FALSE NEIGHBOUR: 'it returns false'. Refute it at one input. -/
def planeGroupWrong : ChangeSpec := { name := "planeGroup", fn := fun _ => fun
  | [d1, d2, d3, d4, d5, d6] => { results := [.lit (.bool false)], args := [d1, d2, d3, d4, d5, d6] }
  | _ => none }
def PlaneGroupWrongFalsely : Prop := planeGroupRow.holds Try.pinned (OpenSpec.ofChange planeGroupWrong)

/- THE SECOND FORM. 'bulk': how many values and letters a reading holds, each counted each time it is reached (what is shared counts as often as it is met; a slice's spare places count too). A statement '..UptoSaid' is the law's where the arguments, and the package variables that the reading takes, are together of bulk at most 1048576: NARROWER than '..Said'. Prove '..Said' where nothing that the law and all that it calls make is longer than what came in: it says more and counts as full. Else prove '..UptoSaid'. A law counts once. -/
mutual
def uptoBulk {H : Type} : DataW H → Nat
  | .lit (.string bytes) => bytes.length + 1
  | .lit _ => 1
  | .nil => 1
  | .ptr d => uptoBulk d + 1
  | .slice elems spare => uptoBulkAll elems + uptoBulkAll spare + 1
  | .agg parts => uptoBulkAll parts + 1
  | .iface _ d => uptoBulk d + 1
  | .map entries => uptoBulkEntries entries + 1
  | .held _ => 1
def uptoBulkAll {H : Type} : List (DataW H) → Nat
  | [] => 0
  | d :: r => uptoBulk d + uptoBulkAll r
def uptoBulkEntries {H : Type} : List (Lit × DataW H) → Nat
  | [] => 0
  | x :: r => uptoBulkEntry x + uptoBulkEntries r
def uptoBulkEntry {H : Type} : Lit × DataW H → Nat
  | (.string bytes, d) => bytes.length + uptoBulk d + 1
  | (_, d) => uptoBulk d + 1
 end
def uptoSmall : (H : Type) → List (DataW H) → Bool := fun _ ds => decide (uptoBulkAll ds ≤ 1048576)
def OpenSpec.upto (s : _root_.Go.ChangeSpec) : _root_.Go.OpenSpec := { _root_.Go.OpenSpec.ofChange s with cond := some uptoSmall }

/-- 'tapestrylaw17.MillGraham', WHERE WHAT IT READS IS OF BULK AT MOST 1048576: true; the input reads as it did. -/
def millGrahamUptoRow : OpenClaim := { program := "ytnjheiiohfhckaa", sum := "67d7647dc8189a51ad8026b97d2874d9a9129dbacfcaa5864abb6de3bc2e17c0", func := "tapestry/tapestrylaw17.MillGraham", spec := "millGraham", apart := false, narrowed := true }
def MillGrahamUptoSaid : Prop := millGrahamUptoRow.holds Try.pinned (OpenSpec.upto millGrahamSpec)

/-- 'tapestrylaw1.PlaneRing', WHERE WHAT IT READS IS OF BULK AT MOST 1048576: true; the input reads as it did. -/
def planeRingUptoRow : OpenClaim := { program := "ytnjheiiohfhckaa", sum := "67d7647dc8189a51ad8026b97d2874d9a9129dbacfcaa5864abb6de3bc2e17c0", func := "tapestry/tapestrylaw1.PlaneRing", spec := "planeRing", apart := false, narrowed := true }
def PlaneRingUptoSaid : Prop := planeRingUptoRow.holds Try.pinned (OpenSpec.upto planeRingSpec)

/-- 'tapestrylaw1.PlaneGcd', WHERE WHAT IT READS IS OF BULK AT MOST 1048576: true; the input reads as it did. -/
def planeGcdUptoRow : OpenClaim := { program := "ytnjheiiohfhckaa", sum := "67d7647dc8189a51ad8026b97d2874d9a9129dbacfcaa5864abb6de3bc2e17c0", func := "tapestry/tapestrylaw1.PlaneGcd", spec := "planeGcd", apart := false, narrowed := true }
def PlaneGcdUptoSaid : Prop := planeGcdUptoRow.holds Try.pinned (OpenSpec.upto planeGcdSpec)

/-- 'tapestrylaw1.PlaneReckons', WHERE WHAT IT READS IS OF BULK AT MOST 1048576: true; the input reads as it did. -/
def planeReckonsUptoRow : OpenClaim := { program := "ytnjheiiohfhckaa", sum := "67d7647dc8189a51ad8026b97d2874d9a9129dbacfcaa5864abb6de3bc2e17c0", func := "tapestry/tapestrylaw1.PlaneReckons", spec := "planeReckons", apart := false, narrowed := true }
def PlaneReckonsUptoSaid : Prop := planeReckonsUptoRow.holds Try.pinned (OpenSpec.upto planeReckonsSpec)

/-- 'tapestrylaw1.PlaneMoves', WHERE WHAT IT READS IS OF BULK AT MOST 1048576: true; the input reads as it did. -/
def planeMovesUptoRow : OpenClaim := { program := "ytnjheiiohfhckaa", sum := "67d7647dc8189a51ad8026b97d2874d9a9129dbacfcaa5864abb6de3bc2e17c0", func := "tapestry/tapestrylaw1.PlaneMoves", spec := "planeMoves", apart := false, narrowed := true }
def PlaneMovesUptoSaid : Prop := planeMovesUptoRow.holds Try.pinned (OpenSpec.upto planeMovesSpec)

/-- 'tapestrylaw1.PlaneGroup', WHERE WHAT IT READS IS OF BULK AT MOST 1048576: true; the input reads as it did. -/
def planeGroupUptoRow : OpenClaim := { program := "ytnjheiiohfhckaa", sum := "67d7647dc8189a51ad8026b97d2874d9a9129dbacfcaa5864abb6de3bc2e17c0", func := "tapestry/tapestrylaw1.PlaneGroup", spec := "planeGroup", apart := false, narrowed := true }
def PlaneGroupUptoSaid : Prop := planeGroupUptoRow.holds Try.pinned (OpenSpec.upto planeGroupSpec)

end Rows
end Go.Proofs.Ytnjheiiohfhckaa
