/-
  DERIVED. GIVEN WITH THE SEED: THE CARDS: each row of YtikdnpkcknocaaaDoorRows.lean that lists a variable, with what it lists TIED to the program's text (the seventh form; the later family's looks); each row that meets fmt, with fmt's text TOLD by the authors' own Lean function (tested against real Go, not proved from fmt's source: count such statements apart). THE CARD IS WHAT COUNTS. Prove the row's statement (the work); the ties are given (YtikdnpkcknocaaaDoorTie.lean); close each card by the builder's one call (the guide's Derived/Test/ToyasCard.lean, 'card_holds'). Laid BY PROGRAM, IN A SANDBOX (cutbox-door.mjs). By AI agents, Wed Nov 11 2026. No macro, syntax, notation, axiom, sorry.
-/
import Derived.Test.YtikdnpkcknocaaaDoorRows
import GoSem.ClaimSeven
namespace Go.Proofs.YtikdnpkcknocaaaDoor
namespace Rows

/-- THE TIED CARD OF 'tapestrylaw2.ChartReads'. -/
def chartReadsCard : Claim7 := { stood := { row := chartReadsRow, standIns := [], harness := (true, "ff26900dbae58b918543a7406b292dd1ffeaec126e2241304eac1b25550cbf9f"), looks := false }, kinds := [], alts := [], laidByText := true, laidKinds := [.data, .pinned], laidTests := true, laidLooks := .later }
def ChartReadsCardSaid : Prop := Claim7.holds Tryd.pinned (.plain (OpenSpec.ofChange chartReadsSpec)) chartReadsCard

/-- THE TIED CARD OF 'tapestrylaw2.ChartGoes'. -/
def chartGoesCard : Claim7 := { stood := { row := chartGoesRow, standIns := [], harness := (true, "ff26900dbae58b918543a7406b292dd1ffeaec126e2241304eac1b25550cbf9f"), looks := false }, kinds := [], alts := [], laidByText := true, laidKinds := [.data, .pinned], laidTests := true, laidLooks := .later }
def ChartGoesCardSaid : Prop := Claim7.holds Tryd.pinned (.plain (OpenSpec.ofChange chartGoesSpec)) chartGoesCard

/-- THE TIED CARD OF 'tapestrylaw2.ChartTurns'. -/
def chartTurnsCard : Claim7 := { stood := { row := chartTurnsRow, standIns := [], harness := (true, "ff26900dbae58b918543a7406b292dd1ffeaec126e2241304eac1b25550cbf9f"), looks := false }, kinds := [], alts := [], laidByText := true, laidKinds := [.data, .pinned], laidTests := true, laidLooks := .later }
def ChartTurnsCardSaid : Prop := Claim7.holds Tryd.pinned (.plain (OpenSpec.ofChange chartTurnsSpec)) chartTurnsCard

/-- THE SECOND FORM's CARD OF 'tapestrylaw2.ChartReads'. -/
def chartReadsUptoCard : Claim7 := { stood := { row := chartReadsUptoRow, standIns := [], harness := (true, "ff26900dbae58b918543a7406b292dd1ffeaec126e2241304eac1b25550cbf9f"), looks := false }, kinds := [], alts := [], laidByText := true, laidKinds := [.data, .pinned], laidTests := true, laidLooks := .later }
def ChartReadsUptoCardSaid : Prop := Claim7.holds Tryd.pinned (.plain (OpenSpec.upto chartReadsSpec)) chartReadsUptoCard

/-- THE SECOND FORM's CARD OF 'tapestrylaw2.ChartGoes'. -/
def chartGoesUptoCard : Claim7 := { stood := { row := chartGoesUptoRow, standIns := [], harness := (true, "ff26900dbae58b918543a7406b292dd1ffeaec126e2241304eac1b25550cbf9f"), looks := false }, kinds := [], alts := [], laidByText := true, laidKinds := [.data, .pinned], laidTests := true, laidLooks := .later }
def ChartGoesUptoCardSaid : Prop := Claim7.holds Tryd.pinned (.plain (OpenSpec.upto chartGoesSpec)) chartGoesUptoCard

/-- THE SECOND FORM's CARD OF 'tapestrylaw2.ChartTurns'. -/
def chartTurnsUptoCard : Claim7 := { stood := { row := chartTurnsUptoRow, standIns := [], harness := (true, "ff26900dbae58b918543a7406b292dd1ffeaec126e2241304eac1b25550cbf9f"), looks := false }, kinds := [], alts := [], laidByText := true, laidKinds := [.data, .pinned], laidTests := true, laidLooks := .later }
def ChartTurnsUptoCardSaid : Prop := Claim7.holds Tryd.pinned (.plain (OpenSpec.upto chartTurnsSpec)) chartTurnsUptoCard
end Rows
end Go.Proofs.YtikdnpkcknocaaaDoor
