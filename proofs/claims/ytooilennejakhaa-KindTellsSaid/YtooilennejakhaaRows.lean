/-
  No cell of these rows narrows 'for every input' (looked for: loops, veiled, ifaces, maps, wideKeys, modest, calm, conditions, laid).
  DERIVED. THE GIVEN ROWS OF THIS SEAT. 4 by the template 'for every input the law returns true; each argument reads behind the call as it read before'; 0 by the template 'total and deterministic' (their statements: YtooilennejakhaaTotals.lean).
  GIVEN WITH THE SEED: the statements are not yours to turn. If you find one false, say at which input.
  Laid BY PROGRAM, IN A SANDBOX (cutbox-rows.mjs): the forced cells as the released guide's own fill.sh prints them over the translation 00c63595b1046c3c… (all of the seat's roots in one cut). By AI agents, Wed Nov 11 2026. No macro, syntax, notation, axiom, sorry.
-/
import Derived.Test.YtooilennejakhaaChecked
import GoSem.Claim
import GoSem.ClaimJoined
import GoSem.ClaimMapViews
import Derived.JoinedTies
import Derived.KernelRfl
namespace Go.Proofs.Ytooilennejakhaa
/- THE CELL 'sum', in the pinned program and in every row, IS THE sha256 OF THE DUMP (.gsa) THAT YtooilennejakhaaProg.lean LOADS. Nothing in Lean hashes anything: it is a label: what it is worth is what the hold of that sum in a sandbox is worth. -/
noncomputable def Try.pinned : Pinned := { name := "ytooilennejakhaa", sum := "00c63595b1046c3cdadb972d65cef88a2929094049729ae7b5f4ce0322f7d052", checked := Try.checked }
namespace Rows
def none {H : Type} : Left H := { results := [], args := [] }

/-- 'tapestrylaw4.KindCounts': WHATEVER THE INPUT: true; the input reads as it did. -/
def kindCountsSpec : ChangeSpec := { name := "kindCounts", fn := fun _ => fun
  | [d] => { results := [.lit (.bool true)], args := [d] }
  | _ => none }
def kindCountsRow : OpenClaim := { program := "ytooilennejakhaa", sum := "00c63595b1046c3cdadb972d65cef88a2929094049729ae7b5f4ce0322f7d052", func := "tapestry/tapestrylaw4.KindCounts", spec := "kindCounts", unfollowed := true, recurses := true, apart := false }
def KindCountsSaid : Prop := kindCountsRow.holds Try.pinned (OpenSpec.ofChange kindCountsSpec)

/-- ITS FALSE NEIGHBOUR: 'it returns false'. Refute it at one input. -/
def kindCountsWrong : ChangeSpec := { name := "kindCounts", fn := fun _ => fun
  | [d] => { results := [.lit (.bool false)], args := [d] }
  | _ => none }
def KindCountsWrongFalsely : Prop := kindCountsRow.holds Try.pinned (OpenSpec.ofChange kindCountsWrong)

/-- 'tapestrylaw4.KindBands': WHATEVER THE INPUT: true; the input reads as it did. -/
def kindBandsSpec : ChangeSpec := { name := "kindBands", fn := fun _ => fun
  | [d1, d2] => { results := [.lit (.bool true)], args := [d1, d2] }
  | _ => none }
def kindBandsRow : OpenClaim := { program := "ytooilennejakhaa", sum := "00c63595b1046c3cdadb972d65cef88a2929094049729ae7b5f4ce0322f7d052", func := "tapestry/tapestrylaw4.KindBands", spec := "kindBands", unfollowed := true, recurses := true, apart := false }
def KindBandsSaid : Prop := kindBandsRow.holds Try.pinned (OpenSpec.ofChange kindBandsSpec)

/-- ITS FALSE NEIGHBOUR: 'it returns false'. Refute it at one input. -/
def kindBandsWrong : ChangeSpec := { name := "kindBands", fn := fun _ => fun
  | [d1, d2] => { results := [.lit (.bool false)], args := [d1, d2] }
  | _ => none }
def KindBandsWrongFalsely : Prop := kindBandsRow.holds Try.pinned (OpenSpec.ofChange kindBandsWrong)

/-- 'tapestrylaw4.KindTells': WHATEVER THE INPUT: true; the input reads as it did. -/
def kindTellsSpec : ChangeSpec := { name := "kindTells", fn := fun _ => fun
  | [d1, d2] => { results := [.lit (.bool true)], args := [d1, d2] }
  | _ => none }
def kindTellsRow : OpenClaim := { program := "ytooilennejakhaa", sum := "00c63595b1046c3cdadb972d65cef88a2929094049729ae7b5f4ce0322f7d052", func := "tapestry/tapestrylaw4.KindTells", spec := "kindTells", unfollowed := true, recurses := true, apart := false }
def KindTellsSaid : Prop := kindTellsRow.holds Try.pinned (OpenSpec.ofChange kindTellsSpec)

/-- ITS FALSE NEIGHBOUR: 'it returns false'. Refute it at one input. -/
def kindTellsWrong : ChangeSpec := { name := "kindTells", fn := fun _ => fun
  | [d1, d2] => { results := [.lit (.bool false)], args := [d1, d2] }
  | _ => none }
def KindTellsWrongFalsely : Prop := kindTellsRow.holds Try.pinned (OpenSpec.ofChange kindTellsWrong)

/-- 'tapestrylaw4.KindMoved': WHATEVER THE INPUT: true; the input reads as it did. -/
def kindMovedSpec : ChangeSpec := { name := "kindMoved", fn := fun _ => fun
  | [d1, d2, d3, d4, d5] => { results := [.lit (.bool true)], args := [d1, d2, d3, d4, d5] }
  | _ => none }
def kindMovedRow : OpenClaim := { program := "ytooilennejakhaa", sum := "00c63595b1046c3cdadb972d65cef88a2929094049729ae7b5f4ce0322f7d052", func := "tapestry/tapestrylaw4.KindMoved", spec := "kindMoved", unfollowed := true, recurses := true, apart := false }
def KindMovedSaid : Prop := kindMovedRow.holds Try.pinned (OpenSpec.ofChange kindMovedSpec)

/-- ITS FALSE NEIGHBOUR: 'it returns false'. Refute it at one input. -/
def kindMovedWrong : ChangeSpec := { name := "kindMoved", fn := fun _ => fun
  | [d1, d2, d3, d4, d5] => { results := [.lit (.bool false)], args := [d1, d2, d3, d4, d5] }
  | _ => none }
def KindMovedWrongFalsely : Prop := kindMovedRow.holds Try.pinned (OpenSpec.ofChange kindMovedWrong)

/- THE SECOND FORM. 'bulk': how many values and letters a reading holds, each counted each time it is reached (what is shared counts as often as it is met; a slice's spare places count too). A statement '..UptoSaid' is the law's where the arguments, and the package variables that the reading takes, are together of bulk at most 1048576: NARROWER than '..Said'. Prove '..Said' where nothing that the law and all that it calls make is longer than what came in: it says more and counts as full. Else prove '..UptoSaid'. A law counts once. -/
mutual
def uptoBulk {H : Type} : DataW H → Nat
  | .lit (.string bytes) => bytes.length + 1
  | .lit _ => 1
  | .nil => 1
  | .ptr d => uptoBulk d + 1
  | .slice elems spare => uptoBulkAll elems + uptoBulkAll spare + 1
  | .agg parts => uptoBulkAll parts + 1
  | .iface _ d => uptoBulk d + 1
  | .map entries => uptoBulkEntries entries + 1
  | .held _ => 1
def uptoBulkAll {H : Type} : List (DataW H) → Nat
  | [] => 0
  | d :: r => uptoBulk d + uptoBulkAll r
def uptoBulkEntries {H : Type} : List (Lit × DataW H) → Nat
  | [] => 0
  | x :: r => uptoBulkEntry x + uptoBulkEntries r
def uptoBulkEntry {H : Type} : Lit × DataW H → Nat
  | (.string bytes, d) => bytes.length + uptoBulk d + 1
  | (_, d) => uptoBulk d + 1
 end
def uptoSmall : (H : Type) → List (DataW H) → Bool := fun _ ds => decide (uptoBulkAll ds ≤ 1048576)
def OpenSpec.upto (s : _root_.Go.ChangeSpec) : _root_.Go.OpenSpec := { _root_.Go.OpenSpec.ofChange s with cond := some uptoSmall }

/-- 'tapestrylaw4.KindCounts', WHERE WHAT IT READS IS OF BULK AT MOST 1048576: true; the input reads as it did. -/
def kindCountsUptoRow : OpenClaim := { program := "ytooilennejakhaa", sum := "00c63595b1046c3cdadb972d65cef88a2929094049729ae7b5f4ce0322f7d052", func := "tapestry/tapestrylaw4.KindCounts", spec := "kindCounts", unfollowed := true, recurses := true, apart := false, narrowed := true }
def KindCountsUptoSaid : Prop := kindCountsUptoRow.holds Try.pinned (OpenSpec.upto kindCountsSpec)

/-- 'tapestrylaw4.KindBands', WHERE WHAT IT READS IS OF BULK AT MOST 1048576: true; the input reads as it did. -/
def kindBandsUptoRow : OpenClaim := { program := "ytooilennejakhaa", sum := "00c63595b1046c3cdadb972d65cef88a2929094049729ae7b5f4ce0322f7d052", func := "tapestry/tapestrylaw4.KindBands", spec := "kindBands", unfollowed := true, recurses := true, apart := false, narrowed := true }
def KindBandsUptoSaid : Prop := kindBandsUptoRow.holds Try.pinned (OpenSpec.upto kindBandsSpec)

/-- 'tapestrylaw4.KindTells', WHERE WHAT IT READS IS OF BULK AT MOST 1048576: true; the input reads as it did. -/
def kindTellsUptoRow : OpenClaim := { program := "ytooilennejakhaa", sum := "00c63595b1046c3cdadb972d65cef88a2929094049729ae7b5f4ce0322f7d052", func := "tapestry/tapestrylaw4.KindTells", spec := "kindTells", unfollowed := true, recurses := true, apart := false, narrowed := true }
def KindTellsUptoSaid : Prop := kindTellsUptoRow.holds Try.pinned (OpenSpec.upto kindTellsSpec)

/-- 'tapestrylaw4.KindMoved', WHERE WHAT IT READS IS OF BULK AT MOST 1048576: true; the input reads as it did. -/
def kindMovedUptoRow : OpenClaim := { program := "ytooilennejakhaa", sum := "00c63595b1046c3cdadb972d65cef88a2929094049729ae7b5f4ce0322f7d052", func := "tapestry/tapestrylaw4.KindMoved", spec := "kindMoved", unfollowed := true, recurses := true, apart := false, narrowed := true }
def KindMovedUptoSaid : Prop := kindMovedUptoRow.holds Try.pinned (OpenSpec.upto kindMovedSpec)

end Rows
end Go.Proofs.Ytooilennejakhaa
