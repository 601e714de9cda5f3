/-
  DERIVED. GIVEN WITH THE SEED: THE CARDS: each row of YtnlnonmgekciaaaDoorRows.lean that lists a variable, with what it lists TIED to the program's text (the seventh form; the later family's looks); each row that meets fmt, with fmt's text TOLD by the authors' own Lean function (tested against real Go, not proved from fmt's source: count such statements apart). THE CARD IS WHAT COUNTS. Prove the row's statement (the work); the ties are given (YtnlnonmgekciaaaDoorTie.lean); close each card by the builder's one call (the guide's Derived/Test/ToyasCard.lean, 'card_holds'). Laid BY PROGRAM, IN A SANDBOX (cutbox-door.mjs). By AI agents, Wed Nov 11 2026. No macro, syntax, notation, axiom, sorry.
-/
import Derived.Test.YtnlnonmgekciaaaDoorRows
import GoSem.ClaimSeven
namespace Go.Proofs.YtnlnonmgekciaaaDoor
namespace Rows

/-- THE TIED CARD OF 'tapestrylaw18.SettTells'. -/
def settTellsCard : Claim7 := { stood := { row := settTellsRow, standIns := [], harness := (true, "a152a12eba7cd34264dbdd9fc03e6da68ebbd44d95a218e4f5838cf6699dec25"), looks := true }, kinds := [], alts := [], laidByText := true, laidKinds := [.data, .data, .data], laidTests := true, laidLooks := .later }
def SettTellsCardSaid : Prop := Claim7.holds Tryd.pinned (.plain (OpenSpec.ofChange settTellsSpec)) settTellsCard

/-- THE TIED CARD OF 'tapestrylaw18.SettReads'. -/
def settReadsCard : Claim7 := { stood := { row := settReadsRow, standIns := [], harness := (true, "a152a12eba7cd34264dbdd9fc03e6da68ebbd44d95a218e4f5838cf6699dec25"), looks := true }, kinds := [], alts := [], laidByText := true, laidKinds := [.data, .data, .data, .data, .sentinel, .sentinel, .pinned], laidTests := true, laidLooks := .later }
def SettReadsCardSaid : Prop := Claim7.holds Tryd.pinned (.plain (OpenSpec.ofChange settReadsSpec)) settReadsCard

/-- THE TIED CARD OF 'tapestrylaw18.SettFolds'. -/
def settFoldsCard : Claim7 := { stood := { row := settFoldsRow, standIns := [], harness := (true, "a152a12eba7cd34264dbdd9fc03e6da68ebbd44d95a218e4f5838cf6699dec25"), looks := true }, kinds := [], alts := [], laidByText := true, laidKinds := [.data, .data, .data, .data, .sentinel, .sentinel, .pinned], laidTests := true, laidLooks := .later }
def SettFoldsCardSaid : Prop := Claim7.holds Tryd.pinned (.plain (OpenSpec.ofChange settFoldsSpec)) settFoldsCard

/-- THE TIED CARD OF 'tapestrylaw18.SettTurns'. -/
def settTurnsCard : Claim7 := { stood := { row := settTurnsRow, standIns := [], harness := (true, "a152a12eba7cd34264dbdd9fc03e6da68ebbd44d95a218e4f5838cf6699dec25"), looks := true }, kinds := [], alts := [], laidByText := true, laidKinds := [.data, .data, .data, .data, .sentinel, .sentinel, .pinned], laidTests := true, laidLooks := .later }
def SettTurnsCardSaid : Prop := Claim7.holds Tryd.pinned (.plain (OpenSpec.ofChange settTurnsSpec)) settTurnsCard

/-- THE SECOND FORM's CARD OF 'tapestrylaw18.SettTells'. -/
def settTellsUptoCard : Claim7 := { stood := { row := settTellsUptoRow, standIns := [], harness := (true, "a152a12eba7cd34264dbdd9fc03e6da68ebbd44d95a218e4f5838cf6699dec25"), looks := true }, kinds := [], alts := [], laidByText := true, laidKinds := [.data, .data, .data], laidTests := true, laidLooks := .later }
def SettTellsUptoCardSaid : Prop := Claim7.holds Tryd.pinned (.plain (OpenSpec.upto settTellsSpec)) settTellsUptoCard

/-- THE SECOND FORM's CARD OF 'tapestrylaw18.SettReads'. -/
def settReadsUptoCard : Claim7 := { stood := { row := settReadsUptoRow, standIns := [], harness := (true, "a152a12eba7cd34264dbdd9fc03e6da68ebbd44d95a218e4f5838cf6699dec25"), looks := true }, kinds := [], alts := [], laidByText := true, laidKinds := [.data, .data, .data, .data, .sentinel, .sentinel, .pinned], laidTests := true, laidLooks := .later }
def SettReadsUptoCardSaid : Prop := Claim7.holds Tryd.pinned (.plain (OpenSpec.upto settReadsSpec)) settReadsUptoCard

/-- THE SECOND FORM's CARD OF 'tapestrylaw18.SettFolds'. -/
def settFoldsUptoCard : Claim7 := { stood := { row := settFoldsUptoRow, standIns := [], harness := (true, "a152a12eba7cd34264dbdd9fc03e6da68ebbd44d95a218e4f5838cf6699dec25"), looks := true }, kinds := [], alts := [], laidByText := true, laidKinds := [.data, .data, .data, .data, .sentinel, .sentinel, .pinned], laidTests := true, laidLooks := .later }
def SettFoldsUptoCardSaid : Prop := Claim7.holds Tryd.pinned (.plain (OpenSpec.upto settFoldsSpec)) settFoldsUptoCard

/-- THE SECOND FORM's CARD OF 'tapestrylaw18.SettTurns'. -/
def settTurnsUptoCard : Claim7 := { stood := { row := settTurnsUptoRow, standIns := [], harness := (true, "a152a12eba7cd34264dbdd9fc03e6da68ebbd44d95a218e4f5838cf6699dec25"), looks := true }, kinds := [], alts := [], laidByText := true, laidKinds := [.data, .data, .data, .data, .sentinel, .sentinel, .pinned], laidTests := true, laidLooks := .later }
def SettTurnsUptoCardSaid : Prop := Claim7.holds Tryd.pinned (.plain (OpenSpec.upto settTurnsSpec)) settTurnsUptoCard
end Rows
end Go.Proofs.YtnlnonmgekciaaaDoor
