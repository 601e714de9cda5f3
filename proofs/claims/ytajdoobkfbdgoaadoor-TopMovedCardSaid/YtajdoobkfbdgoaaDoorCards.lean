/-
  DERIVED. GIVEN WITH THE SEED: THE CARDS: each row of YtajdoobkfbdgoaaDoorRows.lean that lists a variable, with what it lists TIED to the program's text (the seventh form; the later family's looks); each row that meets fmt, with fmt's text TOLD by the authors' own Lean function (tested against real Go, not proved from fmt's source: count such statements apart). THE CARD IS WHAT COUNTS. Prove the row's statement (the work); the ties are given (YtajdoobkfbdgoaaDoorTie.lean); close each card by the builder's one call (the guide's Derived/Test/ToyasCard.lean, 'card_holds'). Laid BY PROGRAM, IN A SANDBOX (cutbox-door.mjs). By AI agents, Wed Nov 11 2026. No macro, syntax, notation, axiom, sorry.
-/
import Derived.Test.YtajdoobkfbdgoaaDoorRows
import GoSem.ClaimSeven
namespace Go.Proofs.YtajdoobkfbdgoaaDoor
namespace Rows

/-- THE TIED CARD OF 'tapestrytop.TopWoven'. -/
def topWovenCard : Claim7 := { stood := { row := topWovenRow, standIns := [], harness := (true, "027f044ec491d4242881b99632f55670677d6e7c9f4b74f22f849d75dffc64b5"), looks := false }, kinds := [], alts := [], laidByText := true, laidKinds := [.data, .pinned], laidTests := true, laidLooks := .later }
def TopWovenCardSaid : Prop := Claim7.holds Tryd.pinned (.plain (OpenSpec.ofChange topWovenSpec)) topWovenCard

/-- THE TIED CARD OF 'tapestrytop.TopMoved'. -/
def topMovedCard : Claim7 := { stood := { row := topMovedRow, standIns := [], harness := (true, "027f044ec491d4242881b99632f55670677d6e7c9f4b74f22f849d75dffc64b5"), looks := false }, kinds := [], alts := [], laidByText := true, laidKinds := [.data, .pinned], laidTests := true, laidLooks := .later }
def TopMovedCardSaid : Prop := Claim7.holds Tryd.pinned (.plain (OpenSpec.ofChange topMovedSpec)) topMovedCard

/-- THE SECOND FORM's CARD OF 'tapestrytop.TopWoven'. -/
def topWovenUptoCard : Claim7 := { stood := { row := topWovenUptoRow, standIns := [], harness := (true, "027f044ec491d4242881b99632f55670677d6e7c9f4b74f22f849d75dffc64b5"), looks := false }, kinds := [], alts := [], laidByText := true, laidKinds := [.data, .pinned], laidTests := true, laidLooks := .later }
def TopWovenUptoCardSaid : Prop := Claim7.holds Tryd.pinned (.plain (OpenSpec.upto topWovenSpec)) topWovenUptoCard

/-- THE SECOND FORM's CARD OF 'tapestrytop.TopMoved'. -/
def topMovedUptoCard : Claim7 := { stood := { row := topMovedUptoRow, standIns := [], harness := (true, "027f044ec491d4242881b99632f55670677d6e7c9f4b74f22f849d75dffc64b5"), looks := false }, kinds := [], alts := [], laidByText := true, laidKinds := [.data, .pinned], laidTests := true, laidLooks := .later }
def TopMovedUptoCardSaid : Prop := Claim7.holds Tryd.pinned (.plain (OpenSpec.upto topMovedSpec)) topMovedUptoCard
end Rows
end Go.Proofs.YtajdoobkfbdgoaaDoor
