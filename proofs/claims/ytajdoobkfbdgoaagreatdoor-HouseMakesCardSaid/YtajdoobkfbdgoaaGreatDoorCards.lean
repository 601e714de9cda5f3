/-
  DERIVED. GIVEN WITH THE SEED: THE CARDS: each row of YtajdoobkfbdgoaaGreatDoorRows.lean that lists a variable, with what it lists TIED to the program's text (the seventh form; the later family's looks); each row that meets fmt, with fmt's text TOLD by the authors' own Lean function (tested against real Go, not proved from fmt's source: count such statements apart). THE CARD IS WHAT COUNTS. Prove the row's statement (the work); the ties are given (YtajdoobkfbdgoaaGreatDoorTie.lean); close each card by the builder's one call (the guide's Derived/Test/ToyasCard.lean, 'card_holds'). Laid BY PROGRAM, IN A SANDBOX (cutbox-door.mjs). By AI agents, Wed Nov 11 2026. No macro, syntax, notation, axiom, sorry.
-/
import Derived.Test.YtajdoobkfbdgoaaGreatDoorRows
import GoSem.ClaimSeven
namespace Go.Proofs.YtajdoobkfbdgoaaGreatDoor
namespace Rows

/-- THE TIED CARD OF 'tapestrylaw20.HouseMakes'. -/
def houseMakesCard : Claim7 := { stood := { row := houseMakesRow, standIns := [], harness := (true, "00b3ef4b8767650cca799d6582193aea85f7f9388b86f0dec2d267eca056d6fa"), looks := false }, kinds := [], alts := [], laidByText := true, laidKinds := [.data, .pinned], laidTests := true, laidLooks := .later }
def HouseMakesCardSaid : Prop := Claim7.holds Tryz.pinned (.plain (OpenSpec.ofChange houseMakesSpec)) houseMakesCard

/-- THE SECOND FORM's CARD OF 'tapestrylaw20.HouseMakes'. -/
def houseMakesUptoCard : Claim7 := { stood := { row := houseMakesUptoRow, standIns := [], harness := (true, "00b3ef4b8767650cca799d6582193aea85f7f9388b86f0dec2d267eca056d6fa"), looks := false }, kinds := [], alts := [], laidByText := true, laidKinds := [.data, .pinned], laidTests := true, laidLooks := .later }
def HouseMakesUptoCardSaid : Prop := Claim7.holds Tryz.pinned (.plain (OpenSpec.upto houseMakesSpec)) houseMakesUptoCard
end Rows
end Go.Proofs.YtajdoobkfbdgoaaGreatDoor
