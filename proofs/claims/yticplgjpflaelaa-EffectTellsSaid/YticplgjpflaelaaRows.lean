/-
  No cell of these rows narrows 'for every input' (looked for: loops, veiled, ifaces, maps, wideKeys, modest, calm, conditions, laid).
  DERIVED. THE GIVEN ROWS OF THIS SEAT. 10 by the template 'for every input the law returns true; each argument reads behind the call as it read before'; 0 by the template 'total and deterministic' (their statements: YticplgjpflaelaaTotals.lean).
  GIVEN WITH THE SEED: the statements are not yours to turn. If you find one false, say at which input.
  Laid BY PROGRAM, IN A SANDBOX (cutbox-rows.mjs): the forced cells as the released guide's own fill.sh prints them over the translation 6ba06a1a03b0a54d… (all of the seat's roots in one cut). By AI agents, Wed Nov 11 2026. No macro, syntax, notation, axiom, sorry.
-/
import Derived.Test.YticplgjpflaelaaChecked
import GoSem.Claim
import GoSem.ClaimJoined
import GoSem.ClaimMapViews
import Derived.JoinedTies
import Derived.KernelRfl
namespace Go.Proofs.Yticplgjpflaelaa
/- THE CELL 'sum', in the pinned program and in every row, IS THE sha256 OF THE DUMP (.gsa) THAT YticplgjpflaelaaProg.lean LOADS. Nothing in Lean hashes anything: it is a label: what it is worth is what the hold of that sum in a sandbox is worth. -/
noncomputable def Try.pinned : Pinned := { name := "yticplgjpflaelaa", sum := "6ba06a1a03b0a54d32d64a38d0c7935165b93387d838fc944acdfa764df2ec77", checked := Try.checked }
namespace Rows
def none {H : Type} : Left H := { results := [], args := [] }

/-- 'tapestrylaw9.CardsPunch': WHATEVER THE INPUT: true; the input reads as it did. -/
def cardsPunchSpec : ChangeSpec := { name := "cardsPunch", fn := fun _ => fun
  | [d1, d2] => { results := [.lit (.bool true)], args := [d1, d2] }
  | _ => none }
def cardsPunchRow : OpenClaim := { program := "yticplgjpflaelaa", sum := "6ba06a1a03b0a54d32d64a38d0c7935165b93387d838fc944acdfa764df2ec77", func := "tapestry/tapestrylaw9.CardsPunch", spec := "cardsPunch", unfollowed := true, recurses := true, apart := false }
def CardsPunchSaid : Prop := cardsPunchRow.holds Try.pinned (OpenSpec.ofChange cardsPunchSpec)

/-- ITS FALSE NEIGHBOUR: 'it returns false'. Refute it at one input. -/
def cardsPunchWrong : ChangeSpec := { name := "cardsPunch", fn := fun _ => fun
  | [d1, d2] => { results := [.lit (.bool false)], args := [d1, d2] }
  | _ => none }
def CardsPunchWrongFalsely : Prop := cardsPunchRow.holds Try.pinned (OpenSpec.ofChange cardsPunchWrong)

/-- 'tapestrylaw9.CardsTurn': WHATEVER THE INPUT: true; the input reads as it did. -/
def cardsTurnSpec : ChangeSpec := { name := "cardsTurn", fn := fun _ => fun
  | [d1, d2] => { results := [.lit (.bool true)], args := [d1, d2] }
  | _ => none }
def cardsTurnRow : OpenClaim := { program := "yticplgjpflaelaa", sum := "6ba06a1a03b0a54d32d64a38d0c7935165b93387d838fc944acdfa764df2ec77", func := "tapestry/tapestrylaw9.CardsTurn", spec := "cardsTurn", unfollowed := true, recurses := true, apart := false }
def CardsTurnSaid : Prop := cardsTurnRow.holds Try.pinned (OpenSpec.ofChange cardsTurnSpec)

/-- ITS FALSE NEIGHBOUR: 'it returns false'. Refute it at one input. -/
def cardsTurnWrong : ChangeSpec := { name := "cardsTurn", fn := fun _ => fun
  | [d1, d2] => { results := [.lit (.bool false)], args := [d1, d2] }
  | _ => none }
def CardsTurnWrongFalsely : Prop := cardsTurnRow.holds Try.pinned (OpenSpec.ofChange cardsTurnWrong)

/-- 'tapestrylaw9.CardsCheck': WHATEVER THE INPUT: true; the input reads as it did. -/
def cardsCheckSpec : ChangeSpec := { name := "cardsCheck", fn := fun _ => fun
  | [d1, d2, d3] => { results := [.lit (.bool true)], args := [d1, d2, d3] }
  | _ => none }
def cardsCheckRow : OpenClaim := { program := "yticplgjpflaelaa", sum := "6ba06a1a03b0a54d32d64a38d0c7935165b93387d838fc944acdfa764df2ec77", func := "tapestry/tapestrylaw9.CardsCheck", spec := "cardsCheck", unfollowed := true, recurses := true, apart := false }
def CardsCheckSaid : Prop := cardsCheckRow.holds Try.pinned (OpenSpec.ofChange cardsCheckSpec)

/-- ITS FALSE NEIGHBOUR: 'it returns false'. Refute it at one input. -/
def cardsCheckWrong : ChangeSpec := { name := "cardsCheck", fn := fun _ => fun
  | [d1, d2, d3] => { results := [.lit (.bool false)], args := [d1, d2, d3] }
  | _ => none }
def CardsCheckWrongFalsely : Prop := cardsCheckRow.holds Try.pinned (OpenSpec.ofChange cardsCheckWrong)

/-- 'tapestrylaw13.PassesMirrored': WHATEVER THE INPUT: true; the input reads as it did. -/
def passesMirroredSpec : ChangeSpec := { name := "passesMirrored", fn := fun _ => fun
  | [d1, d2, d3] => { results := [.lit (.bool true)], args := [d1, d2, d3] }
  | _ => none }
def passesMirroredRow : OpenClaim := { program := "yticplgjpflaelaa", sum := "6ba06a1a03b0a54d32d64a38d0c7935165b93387d838fc944acdfa764df2ec77", func := "tapestry/tapestrylaw13.PassesMirrored", spec := "passesMirrored", unfollowed := true, recurses := true, apart := false }
def PassesMirroredSaid : Prop := passesMirroredRow.holds Try.pinned (OpenSpec.ofChange passesMirroredSpec)

/-- ITS FALSE NEIGHBOUR: 'it returns false'. Refute it at one input. -/
def passesMirroredWrong : ChangeSpec := { name := "passesMirrored", fn := fun _ => fun
  | [d1, d2, d3] => { results := [.lit (.bool false)], args := [d1, d2, d3] }
  | _ => none }
def PassesMirroredWrongFalsely : Prop := passesMirroredRow.holds Try.pinned (OpenSpec.ofChange passesMirroredWrong)

/-- 'tapestrylaw13.PassesPlan': WHATEVER THE INPUT: true; the input reads as it did. -/
def passesPlanSpec : ChangeSpec := { name := "passesPlan", fn := fun _ => fun
  | [d1, d2, d3, d4] => { results := [.lit (.bool true)], args := [d1, d2, d3, d4] }
  | _ => none }
def passesPlanRow : OpenClaim := { program := "yticplgjpflaelaa", sum := "6ba06a1a03b0a54d32d64a38d0c7935165b93387d838fc944acdfa764df2ec77", func := "tapestry/tapestrylaw13.PassesPlan", spec := "passesPlan", unfollowed := true, recurses := true, apart := false }
def PassesPlanSaid : Prop := passesPlanRow.holds Try.pinned (OpenSpec.ofChange passesPlanSpec)

/-- ITS FALSE NEIGHBOUR: 'it returns false'. Refute it at one input. -/
def passesPlanWrong : ChangeSpec := { name := "passesPlan", fn := fun _ => fun
  | [d1, d2, d3, d4] => { results := [.lit (.bool false)], args := [d1, d2, d3, d4] }
  | _ => none }
def PassesPlanWrongFalsely : Prop := passesPlanRow.holds Try.pinned (OpenSpec.ofChange passesPlanWrong)

/-- 'tapestrylaw13.PassesBest': WHATEVER THE INPUT: true; the input reads as it did. -/
def passesBestSpec : ChangeSpec := { name := "passesBest", fn := fun _ => fun
  | [d1, d2, d3, d4] => { results := [.lit (.bool true)], args := [d1, d2, d3, d4] }
  | _ => none }
def passesBestRow : OpenClaim := { program := "yticplgjpflaelaa", sum := "6ba06a1a03b0a54d32d64a38d0c7935165b93387d838fc944acdfa764df2ec77", func := "tapestry/tapestrylaw13.PassesBest", spec := "passesBest", unfollowed := true, recurses := true, apart := false }
def PassesBestSaid : Prop := passesBestRow.holds Try.pinned (OpenSpec.ofChange passesBestSpec)

/-- ITS FALSE NEIGHBOUR: 'it returns false'. Refute it at one input. -/
def passesBestWrong : ChangeSpec := { name := "passesBest", fn := fun _ => fun
  | [d1, d2, d3, d4] => { results := [.lit (.bool false)], args := [d1, d2, d3, d4] }
  | _ => none }
def PassesBestWrongFalsely : Prop := passesBestRow.holds Try.pinned (OpenSpec.ofChange passesBestWrong)

/-- 'tapestrylaw19.EffectFirst': WHATEVER THE INPUT: true; the input reads as it did. -/
def effectFirstSpec : ChangeSpec := { name := "effectFirst", fn := fun _ => fun
  | [d1, d2] => { results := [.lit (.bool true)], args := [d1, d2] }
  | _ => none }
def effectFirstRow : OpenClaim := { program := "yticplgjpflaelaa", sum := "6ba06a1a03b0a54d32d64a38d0c7935165b93387d838fc944acdfa764df2ec77", func := "tapestry/tapestrylaw19.EffectFirst", spec := "effectFirst", apart := false }
def EffectFirstSaid : Prop := effectFirstRow.holds Try.pinned (OpenSpec.ofChange effectFirstSpec)

/-- ITS FALSE NEIGHBOUR: 'it returns false'. Refute it at one input. -/
def effectFirstWrong : ChangeSpec := { name := "effectFirst", fn := fun _ => fun
  | [d1, d2] => { results := [.lit (.bool false)], args := [d1, d2] }
  | _ => none }
def EffectFirstWrongFalsely : Prop := effectFirstRow.holds Try.pinned (OpenSpec.ofChange effectFirstWrong)

/-- 'tapestrylaw19.EffectTells': WHATEVER THE INPUT: true; the input reads as it did. -/
def effectTellsSpec : ChangeSpec := { name := "effectTells", fn := fun _ => fun
  | [d1, d2, d3] => { results := [.lit (.bool true)], args := [d1, d2, d3] }
  | _ => none }
def effectTellsRow : OpenClaim := { program := "yticplgjpflaelaa", sum := "6ba06a1a03b0a54d32d64a38d0c7935165b93387d838fc944acdfa764df2ec77", func := "tapestry/tapestrylaw19.EffectTells", spec := "effectTells", apart := false }
def EffectTellsSaid : Prop := effectTellsRow.holds Try.pinned (OpenSpec.ofChange effectTellsSpec)

/-- ITS FALSE NEIGHBOUR: 'it returns false'. Refute it at one input. -/
def effectTellsWrong : ChangeSpec := { name := "effectTells", fn := fun _ => fun
  | [d1, d2, d3] => { results := [.lit (.bool false)], args := [d1, d2, d3] }
  | _ => none }
def EffectTellsWrongFalsely : Prop := effectTellsRow.holds Try.pinned (OpenSpec.ofChange effectTellsWrong)

/-- 'tapestrylaw19.EffectComplete': WHATEVER THE INPUT: true; the input reads as it did. -/
def effectCompleteSpec : ChangeSpec := { name := "effectComplete", fn := fun _ => fun
  | [d1, d2, d3] => { results := [.lit (.bool true)], args := [d1, d2, d3] }
  | _ => none }
def effectCompleteRow : OpenClaim := { program := "yticplgjpflaelaa", sum := "6ba06a1a03b0a54d32d64a38d0c7935165b93387d838fc944acdfa764df2ec77", func := "tapestry/tapestrylaw19.EffectComplete", spec := "effectComplete", apart := false }
def EffectCompleteSaid : Prop := effectCompleteRow.holds Try.pinned (OpenSpec.ofChange effectCompleteSpec)

/-- ITS FALSE NEIGHBOUR: 'it returns false'. Refute it at one input. -/
def effectCompleteWrong : ChangeSpec := { name := "effectComplete", fn := fun _ => fun
  | [d1, d2, d3] => { results := [.lit (.bool false)], args := [d1, d2, d3] }
  | _ => none }
def EffectCompleteWrongFalsely : Prop := effectCompleteRow.holds Try.pinned (OpenSpec.ofChange effectCompleteWrong)

/-- 'tapestrylaw2.ChartTells': WHATEVER THE INPUT: true; the input reads as it did. -/
def chartTellsSpec : ChangeSpec := { name := "chartTells", fn := fun _ => fun
  | [d1, d2] => { results := [.lit (.bool true)], args := [d1, d2] }
  | _ => none }
def chartTellsRow : OpenClaim := { program := "yticplgjpflaelaa", sum := "6ba06a1a03b0a54d32d64a38d0c7935165b93387d838fc944acdfa764df2ec77", func := "tapestry/tapestrylaw2.ChartTells", spec := "chartTells", inPlace := ["internal/abi.NoEscape"], apart := false }
def ChartTellsSaid : Prop := chartTellsRow.holds Try.pinned (OpenSpec.ofChange chartTellsSpec)

/-- ITS FALSE NEIGHBOUR: 'it returns false'. Refute it at one input. -/
def chartTellsWrong : ChangeSpec := { name := "chartTells", fn := fun _ => fun
  | [d1, d2] => { results := [.lit (.bool false)], args := [d1, d2] }
  | _ => none }
def ChartTellsWrongFalsely : Prop := chartTellsRow.holds Try.pinned (OpenSpec.ofChange chartTellsWrong)

/- THE SECOND FORM. 'bulk': how many values and letters a reading holds, each counted each time it is reached (what is shared counts as often as it is met; a slice's spare places count too). A statement '..UptoSaid' is the law's where the arguments, and the package variables that the reading takes, are together of bulk at most 1048576: NARROWER than '..Said'. Prove '..Said' where nothing that the law and all that it calls make is longer than what came in: it says more and counts as full. Else prove '..UptoSaid'. A law counts once. -/
mutual
def uptoBulk {H : Type} : DataW H → Nat
  | .lit (.string bytes) => bytes.length + 1
  | .lit _ => 1
  | .nil => 1
  | .ptr d => uptoBulk d + 1
  | .slice elems spare => uptoBulkAll elems + uptoBulkAll spare + 1
  | .agg parts => uptoBulkAll parts + 1
  | .iface _ d => uptoBulk d + 1
  | .map entries => uptoBulkEntries entries + 1
  | .held _ => 1
def uptoBulkAll {H : Type} : List (DataW H) → Nat
  | [] => 0
  | d :: r => uptoBulk d + uptoBulkAll r
def uptoBulkEntries {H : Type} : List (Lit × DataW H) → Nat
  | [] => 0
  | x :: r => uptoBulkEntry x + uptoBulkEntries r
def uptoBulkEntry {H : Type} : Lit × DataW H → Nat
  | (.string bytes, d) => bytes.length + uptoBulk d + 1
  | (_, d) => uptoBulk d + 1
 end
def uptoSmall : (H : Type) → List (DataW H) → Bool := fun _ ds => decide (uptoBulkAll ds ≤ 1048576)
def OpenSpec.upto (s : _root_.Go.ChangeSpec) : _root_.Go.OpenSpec := { _root_.Go.OpenSpec.ofChange s with cond := some uptoSmall }

/-- 'tapestrylaw9.CardsPunch', WHERE WHAT IT READS IS OF BULK AT MOST 1048576: true; the input reads as it did. -/
def cardsPunchUptoRow : OpenClaim := { program := "yticplgjpflaelaa", sum := "6ba06a1a03b0a54d32d64a38d0c7935165b93387d838fc944acdfa764df2ec77", func := "tapestry/tapestrylaw9.CardsPunch", spec := "cardsPunch", unfollowed := true, recurses := true, apart := false, narrowed := true }
def CardsPunchUptoSaid : Prop := cardsPunchUptoRow.holds Try.pinned (OpenSpec.upto cardsPunchSpec)

/-- 'tapestrylaw9.CardsTurn', WHERE WHAT IT READS IS OF BULK AT MOST 1048576: true; the input reads as it did. -/
def cardsTurnUptoRow : OpenClaim := { program := "yticplgjpflaelaa", sum := "6ba06a1a03b0a54d32d64a38d0c7935165b93387d838fc944acdfa764df2ec77", func := "tapestry/tapestrylaw9.CardsTurn", spec := "cardsTurn", unfollowed := true, recurses := true, apart := false, narrowed := true }
def CardsTurnUptoSaid : Prop := cardsTurnUptoRow.holds Try.pinned (OpenSpec.upto cardsTurnSpec)

/-- 'tapestrylaw9.CardsCheck', WHERE WHAT IT READS IS OF BULK AT MOST 1048576: true; the input reads as it did. -/
def cardsCheckUptoRow : OpenClaim := { program := "yticplgjpflaelaa", sum := "6ba06a1a03b0a54d32d64a38d0c7935165b93387d838fc944acdfa764df2ec77", func := "tapestry/tapestrylaw9.CardsCheck", spec := "cardsCheck", unfollowed := true, recurses := true, apart := false, narrowed := true }
def CardsCheckUptoSaid : Prop := cardsCheckUptoRow.holds Try.pinned (OpenSpec.upto cardsCheckSpec)

/-- 'tapestrylaw13.PassesMirrored', WHERE WHAT IT READS IS OF BULK AT MOST 1048576: true; the input reads as it did. -/
def passesMirroredUptoRow : OpenClaim := { program := "yticplgjpflaelaa", sum := "6ba06a1a03b0a54d32d64a38d0c7935165b93387d838fc944acdfa764df2ec77", func := "tapestry/tapestrylaw13.PassesMirrored", spec := "passesMirrored", unfollowed := true, recurses := true, apart := false, narrowed := true }
def PassesMirroredUptoSaid : Prop := passesMirroredUptoRow.holds Try.pinned (OpenSpec.upto passesMirroredSpec)

/-- 'tapestrylaw13.PassesPlan', WHERE WHAT IT READS IS OF BULK AT MOST 1048576: true; the input reads as it did. -/
def passesPlanUptoRow : OpenClaim := { program := "yticplgjpflaelaa", sum := "6ba06a1a03b0a54d32d64a38d0c7935165b93387d838fc944acdfa764df2ec77", func := "tapestry/tapestrylaw13.PassesPlan", spec := "passesPlan", unfollowed := true, recurses := true, apart := false, narrowed := true }
def PassesPlanUptoSaid : Prop := passesPlanUptoRow.holds Try.pinned (OpenSpec.upto passesPlanSpec)

/-- 'tapestrylaw13.PassesBest', WHERE WHAT IT READS IS OF BULK AT MOST 1048576: true; the input reads as it did. -/
def passesBestUptoRow : OpenClaim := { program := "yticplgjpflaelaa", sum := "6ba06a1a03b0a54d32d64a38d0c7935165b93387d838fc944acdfa764df2ec77", func := "tapestry/tapestrylaw13.PassesBest", spec := "passesBest", unfollowed := true, recurses := true, apart := false, narrowed := true }
def PassesBestUptoSaid : Prop := passesBestUptoRow.holds Try.pinned (OpenSpec.upto passesBestSpec)

/-- 'tapestrylaw19.EffectFirst', WHERE WHAT IT READS IS OF BULK AT MOST 1048576: true; the input reads as it did. -/
def effectFirstUptoRow : OpenClaim := { program := "yticplgjpflaelaa", sum := "6ba06a1a03b0a54d32d64a38d0c7935165b93387d838fc944acdfa764df2ec77", func := "tapestry/tapestrylaw19.EffectFirst", spec := "effectFirst", apart := false, narrowed := true }
def EffectFirstUptoSaid : Prop := effectFirstUptoRow.holds Try.pinned (OpenSpec.upto effectFirstSpec)

/-- 'tapestrylaw19.EffectTells', WHERE WHAT IT READS IS OF BULK AT MOST 1048576: true; the input reads as it did. -/
def effectTellsUptoRow : OpenClaim := { program := "yticplgjpflaelaa", sum := "6ba06a1a03b0a54d32d64a38d0c7935165b93387d838fc944acdfa764df2ec77", func := "tapestry/tapestrylaw19.EffectTells", spec := "effectTells", apart := false, narrowed := true }
def EffectTellsUptoSaid : Prop := effectTellsUptoRow.holds Try.pinned (OpenSpec.upto effectTellsSpec)

/-- 'tapestrylaw19.EffectComplete', WHERE WHAT IT READS IS OF BULK AT MOST 1048576: true; the input reads as it did. -/
def effectCompleteUptoRow : OpenClaim := { program := "yticplgjpflaelaa", sum := "6ba06a1a03b0a54d32d64a38d0c7935165b93387d838fc944acdfa764df2ec77", func := "tapestry/tapestrylaw19.EffectComplete", spec := "effectComplete", apart := false, narrowed := true }
def EffectCompleteUptoSaid : Prop := effectCompleteUptoRow.holds Try.pinned (OpenSpec.upto effectCompleteSpec)

/-- 'tapestrylaw2.ChartTells', WHERE WHAT IT READS IS OF BULK AT MOST 1048576: true; the input reads as it did. -/
def chartTellsUptoRow : OpenClaim := { program := "yticplgjpflaelaa", sum := "6ba06a1a03b0a54d32d64a38d0c7935165b93387d838fc944acdfa764df2ec77", func := "tapestry/tapestrylaw2.ChartTells", spec := "chartTells", inPlace := ["internal/abi.NoEscape"], apart := false, narrowed := true }
def ChartTellsUptoSaid : Prop := chartTellsUptoRow.holds Try.pinned (OpenSpec.upto chartTellsSpec)

end Rows
end Go.Proofs.Yticplgjpflaelaa
