/-
  No cell of these rows narrows 'for every input' (looked for: loops, veiled, ifaces, maps, wideKeys, modest, calm, conditions, laid).
  DERIVED. THE GIVEN ROWS OF THIS SEAT. 12 by the template 'for every input the law returns true; each argument reads behind the call as it read before'; 0 by the template 'total and deterministic' (their statements: YtdaacjaibfcacaaTotals.lean).
  GIVEN WITH THE SEED: the statements are not yours to turn. If you find one false, say at which input.
  Laid BY PROGRAM, IN A SANDBOX (cutbox-rows.mjs): the forced cells as the released guide's own fill.sh prints them over the translation 98fa6b05cf0de5e3… (all of the seat's roots in one cut). By AI agents, Wed Nov 11 2026. No macro, syntax, notation, axiom, sorry.
-/
import Derived.Test.YtdaacjaibfcacaaChecked
import GoSem.Claim
import GoSem.ClaimJoined
import GoSem.ClaimMapViews
import Derived.JoinedTies
import Derived.KernelRfl
namespace Go.Proofs.Ytdaacjaibfcacaa
/- THE CELL 'sum', in the pinned program and in every row, IS THE sha256 OF THE DUMP (.gsa) THAT YtdaacjaibfcacaaProg.lean LOADS. Nothing in Lean hashes anything: it is a label: what it is worth is what the hold of that sum in a sandbox is worth. -/
noncomputable def Try.pinned : Pinned := { name := "ytdaacjaibfcacaa", sum := "98fa6b05cf0de5e311add75a4fc146b2c622c506d48263c1cb711181df662eb0", checked := Try.checked }
namespace Rows
def none {H : Type} : Left H := { results := [], args := [] }

/-- 'tapestrylaw9.CardsPunch': WHATEVER THE INPUT: true; the input reads as it did. -/
def cardsPunchSpec : ChangeSpec := { name := "cardsPunch", fn := fun _ => fun
  | [d1, d2] => { results := [.lit (.bool true)], args := [d1, d2] }
  | _ => none }
def cardsPunchRow : OpenClaim := { program := "ytdaacjaibfcacaa", sum := "98fa6b05cf0de5e311add75a4fc146b2c622c506d48263c1cb711181df662eb0", func := "tapestry/tapestrylaw9.CardsPunch", spec := "cardsPunch", unfollowed := true, recurses := true, apart := false }
def CardsPunchSaid : Prop := cardsPunchRow.holds Try.pinned (OpenSpec.ofChange cardsPunchSpec)

/-- ITS FALSE NEIGHBOUR: 'it returns false'. Refute it at one input. -/
def cardsPunchWrong : ChangeSpec := { name := "cardsPunch", fn := fun _ => fun
  | [d1, d2] => { results := [.lit (.bool false)], args := [d1, d2] }
  | _ => none }
def CardsPunchWrongFalsely : Prop := cardsPunchRow.holds Try.pinned (OpenSpec.ofChange cardsPunchWrong)

/-- 'tapestrylaw2.ChartTells': WHATEVER THE INPUT: true; the input reads as it did. -/
def chartTellsSpec : ChangeSpec := { name := "chartTells", fn := fun _ => fun
  | [d1, d2] => { results := [.lit (.bool true)], args := [d1, d2] }
  | _ => none }
def chartTellsRow : OpenClaim := { program := "ytdaacjaibfcacaa", sum := "98fa6b05cf0de5e311add75a4fc146b2c622c506d48263c1cb711181df662eb0", func := "tapestry/tapestrylaw2.ChartTells", spec := "chartTells", inPlace := ["internal/abi.NoEscape"], apart := false }
def ChartTellsSaid : Prop := chartTellsRow.holds Try.pinned (OpenSpec.ofChange chartTellsSpec)

/-- ITS FALSE NEIGHBOUR: 'it returns false'. Refute it at one input. -/
def chartTellsWrong : ChangeSpec := { name := "chartTells", fn := fun _ => fun
  | [d1, d2] => { results := [.lit (.bool false)], args := [d1, d2] }
  | _ => none }
def ChartTellsWrongFalsely : Prop := chartTellsRow.holds Try.pinned (OpenSpec.ofChange chartTellsWrong)

/-- 'tapestrylaw3.GroupBurnside': WHATEVER THE INPUT: true; the input reads as it did. -/
def groupBurnsideSpec : ChangeSpec := { name := "groupBurnside", fn := fun _ => fun
  | [d] => { results := [.lit (.bool true)], args := [d] }
  | _ => none }
def groupBurnsideRow : OpenClaim := { program := "ytdaacjaibfcacaa", sum := "98fa6b05cf0de5e311add75a4fc146b2c622c506d48263c1cb711181df662eb0", func := "tapestry/tapestrylaw3.GroupBurnside", spec := "groupBurnside", apart := false }
def GroupBurnsideSaid : Prop := groupBurnsideRow.holds Try.pinned (OpenSpec.ofChange groupBurnsideSpec)

/-- ITS FALSE NEIGHBOUR: 'it returns false'. Refute it at one input. -/
def groupBurnsideWrong : ChangeSpec := { name := "groupBurnside", fn := fun _ => fun
  | [d] => { results := [.lit (.bool false)], args := [d] }
  | _ => none }
def GroupBurnsideWrongFalsely : Prop := groupBurnsideRow.holds Try.pinned (OpenSpec.ofChange groupBurnsideWrong)

/-- 'tapestrylaw3.GroupComplete': WHATEVER THE INPUT: true; the input reads as it did. -/
def groupCompleteSpec : ChangeSpec := { name := "groupComplete", fn := fun _ => fun
  | [d1, d2] => { results := [.lit (.bool true)], args := [d1, d2] }
  | _ => none }
def groupCompleteRow : OpenClaim := { program := "ytdaacjaibfcacaa", sum := "98fa6b05cf0de5e311add75a4fc146b2c622c506d48263c1cb711181df662eb0", func := "tapestry/tapestrylaw3.GroupComplete", spec := "groupComplete", apart := false }
def GroupCompleteSaid : Prop := groupCompleteRow.holds Try.pinned (OpenSpec.ofChange groupCompleteSpec)

/-- ITS FALSE NEIGHBOUR: 'it returns false'. Refute it at one input. -/
def groupCompleteWrong : ChangeSpec := { name := "groupComplete", fn := fun _ => fun
  | [d1, d2] => { results := [.lit (.bool false)], args := [d1, d2] }
  | _ => none }
def GroupCompleteWrongFalsely : Prop := groupCompleteRow.holds Try.pinned (OpenSpec.ofChange groupCompleteWrong)

/-- 'tapestrylaw3.GroupLattice': WHATEVER THE INPUT: true; the input reads as it did. -/
def groupLatticeSpec : ChangeSpec := { name := "groupLattice", fn := fun _ => fun
  | [d1, d2] => { results := [.lit (.bool true)], args := [d1, d2] }
  | _ => none }
def groupLatticeRow : OpenClaim := { program := "ytdaacjaibfcacaa", sum := "98fa6b05cf0de5e311add75a4fc146b2c622c506d48263c1cb711181df662eb0", func := "tapestry/tapestrylaw3.GroupLattice", spec := "groupLattice", apart := false }
def GroupLatticeSaid : Prop := groupLatticeRow.holds Try.pinned (OpenSpec.ofChange groupLatticeSpec)

/-- ITS FALSE NEIGHBOUR: 'it returns false'. Refute it at one input. -/
def groupLatticeWrong : ChangeSpec := { name := "groupLattice", fn := fun _ => fun
  | [d1, d2] => { results := [.lit (.bool false)], args := [d1, d2] }
  | _ => none }
def GroupLatticeWrongFalsely : Prop := groupLatticeRow.holds Try.pinned (OpenSpec.ofChange groupLatticeWrong)

/-- 'tapestrylaw3.GroupCloses': WHATEVER THE INPUT: true; the input reads as it did. -/
def groupClosesSpec : ChangeSpec := { name := "groupCloses", fn := fun _ => fun
  | [d1, d2, d3] => { results := [.lit (.bool true)], args := [d1, d2, d3] }
  | _ => none }
def groupClosesRow : OpenClaim := { program := "ytdaacjaibfcacaa", sum := "98fa6b05cf0de5e311add75a4fc146b2c622c506d48263c1cb711181df662eb0", func := "tapestry/tapestrylaw3.GroupCloses", spec := "groupCloses", apart := false }
def GroupClosesSaid : Prop := groupClosesRow.holds Try.pinned (OpenSpec.ofChange groupClosesSpec)

/-- ITS FALSE NEIGHBOUR: 'it returns false'. Refute it at one input. -/
def groupClosesWrong : ChangeSpec := { name := "groupCloses", fn := fun _ => fun
  | [d1, d2, d3] => { results := [.lit (.bool false)], args := [d1, d2, d3] }
  | _ => none }
def GroupClosesWrongFalsely : Prop := groupClosesRow.holds Try.pinned (OpenSpec.ofChange groupClosesWrong)

/-- 'tapestrylaw3.GroupFinds': WHATEVER THE INPUT: true; the input reads as it did. -/
def groupFindsSpec : ChangeSpec := { name := "groupFinds", fn := fun _ => fun
  | [d] => { results := [.lit (.bool true)], args := [d] }
  | _ => none }
def groupFindsRow : OpenClaim := { program := "ytdaacjaibfcacaa", sum := "98fa6b05cf0de5e311add75a4fc146b2c622c506d48263c1cb711181df662eb0", func := "tapestry/tapestrylaw3.GroupFinds", spec := "groupFinds", apart := false }
def GroupFindsSaid : Prop := groupFindsRow.holds Try.pinned (OpenSpec.ofChange groupFindsSpec)

/-- ITS FALSE NEIGHBOUR: 'it returns false'. Refute it at one input. -/
def groupFindsWrong : ChangeSpec := { name := "groupFinds", fn := fun _ => fun
  | [d] => { results := [.lit (.bool false)], args := [d] }
  | _ => none }
def GroupFindsWrongFalsely : Prop := groupFindsRow.holds Try.pinned (OpenSpec.ofChange groupFindsWrong)

/-- 'tapestrylaw3.GroupMoves': WHATEVER THE INPUT: true; the input reads as it did. -/
def groupMovesSpec : ChangeSpec := { name := "groupMoves", fn := fun _ => fun
  | [d1, d2] => { results := [.lit (.bool true)], args := [d1, d2] }
  | _ => none }
def groupMovesRow : OpenClaim := { program := "ytdaacjaibfcacaa", sum := "98fa6b05cf0de5e311add75a4fc146b2c622c506d48263c1cb711181df662eb0", func := "tapestry/tapestrylaw3.GroupMoves", spec := "groupMoves", apart := false }
def GroupMovesSaid : Prop := groupMovesRow.holds Try.pinned (OpenSpec.ofChange groupMovesSpec)

/-- ITS FALSE NEIGHBOUR: 'it returns false'. Refute it at one input. -/
def groupMovesWrong : ChangeSpec := { name := "groupMoves", fn := fun _ => fun
  | [d1, d2] => { results := [.lit (.bool false)], args := [d1, d2] }
  | _ => none }
def GroupMovesWrongFalsely : Prop := groupMovesRow.holds Try.pinned (OpenSpec.ofChange groupMovesWrong)

/-- 'tapestrylaw3.GroupMoved': WHATEVER THE INPUT: true; the input reads as it did. -/
def groupMovedSpec : ChangeSpec := { name := "groupMoved", fn := fun _ => fun
  | [d1, d2] => { results := [.lit (.bool true)], args := [d1, d2] }
  | _ => none }
def groupMovedRow : OpenClaim := { program := "ytdaacjaibfcacaa", sum := "98fa6b05cf0de5e311add75a4fc146b2c622c506d48263c1cb711181df662eb0", func := "tapestry/tapestrylaw3.GroupMoved", spec := "groupMoved", apart := false }
def GroupMovedSaid : Prop := groupMovedRow.holds Try.pinned (OpenSpec.ofChange groupMovedSpec)

/-- ITS FALSE NEIGHBOUR: 'it returns false'. Refute it at one input. -/
def groupMovedWrong : ChangeSpec := { name := "groupMoved", fn := fun _ => fun
  | [d1, d2] => { results := [.lit (.bool false)], args := [d1, d2] }
  | _ => none }
def GroupMovedWrongFalsely : Prop := groupMovedRow.holds Try.pinned (OpenSpec.ofChange groupMovedWrong)

/-- 'tapestrylaw13.PassesMirrored': WHATEVER THE INPUT: true; the input reads as it did. -/
def passesMirroredSpec : ChangeSpec := { name := "passesMirrored", fn := fun _ => fun
  | [d1, d2, d3] => { results := [.lit (.bool true)], args := [d1, d2, d3] }
  | _ => none }
def passesMirroredRow : OpenClaim := { program := "ytdaacjaibfcacaa", sum := "98fa6b05cf0de5e311add75a4fc146b2c622c506d48263c1cb711181df662eb0", func := "tapestry/tapestrylaw13.PassesMirrored", spec := "passesMirrored", unfollowed := true, recurses := true, apart := false }
def PassesMirroredSaid : Prop := passesMirroredRow.holds Try.pinned (OpenSpec.ofChange passesMirroredSpec)

/-- ITS FALSE NEIGHBOUR: 'it returns false'. Refute it at one input. -/
def passesMirroredWrong : ChangeSpec := { name := "passesMirrored", fn := fun _ => fun
  | [d1, d2, d3] => { results := [.lit (.bool false)], args := [d1, d2, d3] }
  | _ => none }
def PassesMirroredWrongFalsely : Prop := passesMirroredRow.holds Try.pinned (OpenSpec.ofChange passesMirroredWrong)

/-- 'tapestrylaw13.PassesPlan': WHATEVER THE INPUT: true; the input reads as it did. -/
def passesPlanSpec : ChangeSpec := { name := "passesPlan", fn := fun _ => fun
  | [d1, d2, d3, d4] => { results := [.lit (.bool true)], args := [d1, d2, d3, d4] }
  | _ => none }
def passesPlanRow : OpenClaim := { program := "ytdaacjaibfcacaa", sum := "98fa6b05cf0de5e311add75a4fc146b2c622c506d48263c1cb711181df662eb0", func := "tapestry/tapestrylaw13.PassesPlan", spec := "passesPlan", unfollowed := true, recurses := true, apart := false }
def PassesPlanSaid : Prop := passesPlanRow.holds Try.pinned (OpenSpec.ofChange passesPlanSpec)

/-- ITS FALSE NEIGHBOUR: 'it returns false'. Refute it at one input. -/
def passesPlanWrong : ChangeSpec := { name := "passesPlan", fn := fun _ => fun
  | [d1, d2, d3, d4] => { results := [.lit (.bool false)], args := [d1, d2, d3, d4] }
  | _ => none }
def PassesPlanWrongFalsely : Prop := passesPlanRow.holds Try.pinned (OpenSpec.ofChange passesPlanWrong)

/-- 'tapestrylaw13.PassesBest': WHATEVER THE INPUT: true; the input reads as it did. -/
def passesBestSpec : ChangeSpec := { name := "passesBest", fn := fun _ => fun
  | [d1, d2, d3, d4] => { results := [.lit (.bool true)], args := [d1, d2, d3, d4] }
  | _ => none }
def passesBestRow : OpenClaim := { program := "ytdaacjaibfcacaa", sum := "98fa6b05cf0de5e311add75a4fc146b2c622c506d48263c1cb711181df662eb0", func := "tapestry/tapestrylaw13.PassesBest", spec := "passesBest", unfollowed := true, recurses := true, apart := false }
def PassesBestSaid : Prop := passesBestRow.holds Try.pinned (OpenSpec.ofChange passesBestSpec)

/-- ITS FALSE NEIGHBOUR: 'it returns false'. Refute it at one input. -/
def passesBestWrong : ChangeSpec := { name := "passesBest", fn := fun _ => fun
  | [d1, d2, d3, d4] => { results := [.lit (.bool false)], args := [d1, d2, d3, d4] }
  | _ => none }
def PassesBestWrongFalsely : Prop := passesBestRow.holds Try.pinned (OpenSpec.ofChange passesBestWrong)

/- THE SECOND FORM. 'bulk': how many values and letters a reading holds, each counted each time it is reached (what is shared counts as often as it is met; a slice's spare places count too). A statement '..UptoSaid' is the law's where the arguments, and the package variables that the reading takes, are together of bulk at most 1048576: NARROWER than '..Said'. Prove '..Said' where nothing that the law and all that it calls make is longer than what came in: it says more and counts as full. Else prove '..UptoSaid'. A law counts once. -/
mutual
def uptoBulk {H : Type} : DataW H → Nat
  | .lit (.string bytes) => bytes.length + 1
  | .lit _ => 1
  | .nil => 1
  | .ptr d => uptoBulk d + 1
  | .slice elems spare => uptoBulkAll elems + uptoBulkAll spare + 1
  | .agg parts => uptoBulkAll parts + 1
  | .iface _ d => uptoBulk d + 1
  | .map entries => uptoBulkEntries entries + 1
  | .held _ => 1
def uptoBulkAll {H : Type} : List (DataW H) → Nat
  | [] => 0
  | d :: r => uptoBulk d + uptoBulkAll r
def uptoBulkEntries {H : Type} : List (Lit × DataW H) → Nat
  | [] => 0
  | x :: r => uptoBulkEntry x + uptoBulkEntries r
def uptoBulkEntry {H : Type} : Lit × DataW H → Nat
  | (.string bytes, d) => bytes.length + uptoBulk d + 1
  | (_, d) => uptoBulk d + 1
 end
def uptoSmall : (H : Type) → List (DataW H) → Bool := fun _ ds => decide (uptoBulkAll ds ≤ 1048576)
def OpenSpec.upto (s : _root_.Go.ChangeSpec) : _root_.Go.OpenSpec := { _root_.Go.OpenSpec.ofChange s with cond := some uptoSmall }

/-- 'tapestrylaw9.CardsPunch', WHERE WHAT IT READS IS OF BULK AT MOST 1048576: true; the input reads as it did. -/
def cardsPunchUptoRow : OpenClaim := { program := "ytdaacjaibfcacaa", sum := "98fa6b05cf0de5e311add75a4fc146b2c622c506d48263c1cb711181df662eb0", func := "tapestry/tapestrylaw9.CardsPunch", spec := "cardsPunch", unfollowed := true, recurses := true, apart := false, narrowed := true }
def CardsPunchUptoSaid : Prop := cardsPunchUptoRow.holds Try.pinned (OpenSpec.upto cardsPunchSpec)

/-- 'tapestrylaw2.ChartTells', WHERE WHAT IT READS IS OF BULK AT MOST 1048576: true; the input reads as it did. -/
def chartTellsUptoRow : OpenClaim := { program := "ytdaacjaibfcacaa", sum := "98fa6b05cf0de5e311add75a4fc146b2c622c506d48263c1cb711181df662eb0", func := "tapestry/tapestrylaw2.ChartTells", spec := "chartTells", inPlace := ["internal/abi.NoEscape"], apart := false, narrowed := true }
def ChartTellsUptoSaid : Prop := chartTellsUptoRow.holds Try.pinned (OpenSpec.upto chartTellsSpec)

/-- 'tapestrylaw3.GroupBurnside', WHERE WHAT IT READS IS OF BULK AT MOST 1048576: true; the input reads as it did. -/
def groupBurnsideUptoRow : OpenClaim := { program := "ytdaacjaibfcacaa", sum := "98fa6b05cf0de5e311add75a4fc146b2c622c506d48263c1cb711181df662eb0", func := "tapestry/tapestrylaw3.GroupBurnside", spec := "groupBurnside", apart := false, narrowed := true }
def GroupBurnsideUptoSaid : Prop := groupBurnsideUptoRow.holds Try.pinned (OpenSpec.upto groupBurnsideSpec)

/-- 'tapestrylaw3.GroupComplete', WHERE WHAT IT READS IS OF BULK AT MOST 1048576: true; the input reads as it did. -/
def groupCompleteUptoRow : OpenClaim := { program := "ytdaacjaibfcacaa", sum := "98fa6b05cf0de5e311add75a4fc146b2c622c506d48263c1cb711181df662eb0", func := "tapestry/tapestrylaw3.GroupComplete", spec := "groupComplete", apart := false, narrowed := true }
def GroupCompleteUptoSaid : Prop := groupCompleteUptoRow.holds Try.pinned (OpenSpec.upto groupCompleteSpec)

/-- 'tapestrylaw3.GroupLattice', WHERE WHAT IT READS IS OF BULK AT MOST 1048576: true; the input reads as it did. -/
def groupLatticeUptoRow : OpenClaim := { program := "ytdaacjaibfcacaa", sum := "98fa6b05cf0de5e311add75a4fc146b2c622c506d48263c1cb711181df662eb0", func := "tapestry/tapestrylaw3.GroupLattice", spec := "groupLattice", apart := false, narrowed := true }
def GroupLatticeUptoSaid : Prop := groupLatticeUptoRow.holds Try.pinned (OpenSpec.upto groupLatticeSpec)

/-- 'tapestrylaw3.GroupCloses', WHERE WHAT IT READS IS OF BULK AT MOST 1048576: true; the input reads as it did. -/
def groupClosesUptoRow : OpenClaim := { program := "ytdaacjaibfcacaa", sum := "98fa6b05cf0de5e311add75a4fc146b2c622c506d48263c1cb711181df662eb0", func := "tapestry/tapestrylaw3.GroupCloses", spec := "groupCloses", apart := false, narrowed := true }
def GroupClosesUptoSaid : Prop := groupClosesUptoRow.holds Try.pinned (OpenSpec.upto groupClosesSpec)

/-- 'tapestrylaw3.GroupFinds', WHERE WHAT IT READS IS OF BULK AT MOST 1048576: true; the input reads as it did. -/
def groupFindsUptoRow : OpenClaim := { program := "ytdaacjaibfcacaa", sum := "98fa6b05cf0de5e311add75a4fc146b2c622c506d48263c1cb711181df662eb0", func := "tapestry/tapestrylaw3.GroupFinds", spec := "groupFinds", apart := false, narrowed := true }
def GroupFindsUptoSaid : Prop := groupFindsUptoRow.holds Try.pinned (OpenSpec.upto groupFindsSpec)

/-- 'tapestrylaw3.GroupMoves', WHERE WHAT IT READS IS OF BULK AT MOST 1048576: true; the input reads as it did. -/
def groupMovesUptoRow : OpenClaim := { program := "ytdaacjaibfcacaa", sum := "98fa6b05cf0de5e311add75a4fc146b2c622c506d48263c1cb711181df662eb0", func := "tapestry/tapestrylaw3.GroupMoves", spec := "groupMoves", apart := false, narrowed := true }
def GroupMovesUptoSaid : Prop := groupMovesUptoRow.holds Try.pinned (OpenSpec.upto groupMovesSpec)

/-- 'tapestrylaw3.GroupMoved', WHERE WHAT IT READS IS OF BULK AT MOST 1048576: true; the input reads as it did. -/
def groupMovedUptoRow : OpenClaim := { program := "ytdaacjaibfcacaa", sum := "98fa6b05cf0de5e311add75a4fc146b2c622c506d48263c1cb711181df662eb0", func := "tapestry/tapestrylaw3.GroupMoved", spec := "groupMoved", apart := false, narrowed := true }
def GroupMovedUptoSaid : Prop := groupMovedUptoRow.holds Try.pinned (OpenSpec.upto groupMovedSpec)

/-- 'tapestrylaw13.PassesMirrored', WHERE WHAT IT READS IS OF BULK AT MOST 1048576: true; the input reads as it did. -/
def passesMirroredUptoRow : OpenClaim := { program := "ytdaacjaibfcacaa", sum := "98fa6b05cf0de5e311add75a4fc146b2c622c506d48263c1cb711181df662eb0", func := "tapestry/tapestrylaw13.PassesMirrored", spec := "passesMirrored", unfollowed := true, recurses := true, apart := false, narrowed := true }
def PassesMirroredUptoSaid : Prop := passesMirroredUptoRow.holds Try.pinned (OpenSpec.upto passesMirroredSpec)

/-- 'tapestrylaw13.PassesPlan', WHERE WHAT IT READS IS OF BULK AT MOST 1048576: true; the input reads as it did. -/
def passesPlanUptoRow : OpenClaim := { program := "ytdaacjaibfcacaa", sum := "98fa6b05cf0de5e311add75a4fc146b2c622c506d48263c1cb711181df662eb0", func := "tapestry/tapestrylaw13.PassesPlan", spec := "passesPlan", unfollowed := true, recurses := true, apart := false, narrowed := true }
def PassesPlanUptoSaid : Prop := passesPlanUptoRow.holds Try.pinned (OpenSpec.upto passesPlanSpec)

/-- 'tapestrylaw13.PassesBest', WHERE WHAT IT READS IS OF BULK AT MOST 1048576: true; the input reads as it did. -/
def passesBestUptoRow : OpenClaim := { program := "ytdaacjaibfcacaa", sum := "98fa6b05cf0de5e311add75a4fc146b2c622c506d48263c1cb711181df662eb0", func := "tapestry/tapestrylaw13.PassesBest", spec := "passesBest", unfollowed := true, recurses := true, apart := false, narrowed := true }
def PassesBestUptoSaid : Prop := passesBestUptoRow.holds Try.pinned (OpenSpec.upto passesBestSpec)

end Rows
end Go.Proofs.Ytdaacjaibfcacaa
