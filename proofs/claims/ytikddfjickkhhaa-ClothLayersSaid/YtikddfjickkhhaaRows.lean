/-
  No cell of these rows narrows 'for every input' (looked for: loops, veiled, ifaces, maps, wideKeys, modest, calm, conditions, laid).
  DERIVED. THE GIVEN ROWS OF THIS SEAT. 12 by the template 'for every input the law returns true; each argument reads behind the call as it read before'; 0 by the template 'total and deterministic' (their statements: YtikddfjickkhhaaTotals.lean).
  GIVEN WITH THE SEED: the statements are not yours to turn. If you find one false, say at which input.
  Laid BY PROGRAM, IN A SANDBOX (cutbox-rows.mjs): the forced cells as the released guide's own fill.sh prints them over the translation 9f04c910a986e77f… (all of the seat's roots in one cut). By AI agents, Wed Nov 11 2026. No macro, syntax, notation, axiom, sorry.
-/
import Derived.Test.YtikddfjickkhhaaChecked
import GoSem.Claim
import GoSem.ClaimJoined
import GoSem.ClaimMapViews
import Derived.JoinedTies
import Derived.KernelRfl
namespace Go.Proofs.Ytikddfjickkhhaa
/- THE CELL 'sum', in the pinned program and in every row, IS THE sha256 OF THE DUMP (.gsa) THAT YtikddfjickkhhaaProg.lean LOADS. Nothing in Lean hashes anything: it is a label: what it is worth is what the hold of that sum in a sandbox is worth. -/
noncomputable def Try.pinned : Pinned := { name := "ytikddfjickkhhaa", sum := "9f04c910a986e77f26a4a1e6a583ade8d93cac20e32c7ea6f7041b4eacfad767", checked := Try.checked }
namespace Rows
def none {H : Type} : Left H := { results := [], args := [] }

/-- 'tapestrylaw7.TwillSatin': WHATEVER THE INPUT: true; the input reads as it did. -/
def twillSatinSpec : ChangeSpec := { name := "twillSatin", fn := fun _ => fun
  | [d1, d2] => { results := [.lit (.bool true)], args := [d1, d2] }
  | _ => none }
def twillSatinRow : OpenClaim := { program := "ytikddfjickkhhaa", sum := "9f04c910a986e77f26a4a1e6a583ade8d93cac20e32c7ea6f7041b4eacfad767", func := "tapestry/tapestrylaw7.TwillSatin", spec := "twillSatin", apart := false }
def TwillSatinSaid : Prop := twillSatinRow.holds Try.pinned (OpenSpec.ofChange twillSatinSpec)

/-- ITS FALSE NEIGHBOUR: 'it returns false'. Refute it at one input. -/
def twillSatinWrong : ChangeSpec := { name := "twillSatin", fn := fun _ => fun
  | [d1, d2] => { results := [.lit (.bool false)], args := [d1, d2] }
  | _ => none }
def TwillSatinWrongFalsely : Prop := twillSatinRow.holds Try.pinned (OpenSpec.ofChange twillSatinWrong)

/-- 'tapestrylaw8.ClothHangs': WHATEVER THE INPUT: true; the input reads as it did. -/
def clothHangsSpec : ChangeSpec := { name := "clothHangs", fn := fun _ => fun
  | [d1, d2] => { results := [.lit (.bool true)], args := [d1, d2] }
  | _ => none }
def clothHangsRow : OpenClaim := { program := "ytikddfjickkhhaa", sum := "9f04c910a986e77f26a4a1e6a583ade8d93cac20e32c7ea6f7041b4eacfad767", func := "tapestry/tapestrylaw8.ClothHangs", spec := "clothHangs", unfollowed := true, recurses := true, apart := false }
def ClothHangsSaid : Prop := clothHangsRow.holds Try.pinned (OpenSpec.ofChange clothHangsSpec)

/-- ITS FALSE NEIGHBOUR: 'it returns false'. Refute it at one input. -/
def clothHangsWrong : ChangeSpec := { name := "clothHangs", fn := fun _ => fun
  | [d1, d2] => { results := [.lit (.bool false)], args := [d1, d2] }
  | _ => none }
def ClothHangsWrongFalsely : Prop := clothHangsRow.holds Try.pinned (OpenSpec.ofChange clothHangsWrong)

/-- 'tapestrylaw5.TruthProducts': WHATEVER THE INPUT: true; the input reads as it did. -/
def truthProductsSpec : ChangeSpec := { name := "truthProducts", fn := fun _ => fun
  | [d1, d2, d3] => { results := [.lit (.bool true)], args := [d1, d2, d3] }
  | _ => none }
def truthProductsRow : OpenClaim := { program := "ytikddfjickkhhaa", sum := "9f04c910a986e77f26a4a1e6a583ade8d93cac20e32c7ea6f7041b4eacfad767", func := "tapestry/tapestrylaw5.TruthProducts", spec := "truthProducts", unfollowed := true, recurses := true, apart := false }
def TruthProductsSaid : Prop := truthProductsRow.holds Try.pinned (OpenSpec.ofChange truthProductsSpec)

/-- ITS FALSE NEIGHBOUR: 'it returns false'. Refute it at one input. -/
def truthProductsWrong : ChangeSpec := { name := "truthProducts", fn := fun _ => fun
  | [d1, d2, d3] => { results := [.lit (.bool false)], args := [d1, d2, d3] }
  | _ => none }
def TruthProductsWrongFalsely : Prop := truthProductsRow.holds Try.pinned (OpenSpec.ofChange truthProductsWrong)

/-- 'tapestrylaw8.ClothTells': WHATEVER THE INPUT: true; the input reads as it did. -/
def clothTellsSpec : ChangeSpec := { name := "clothTells", fn := fun _ => fun
  | [d] => { results := [.lit (.bool true)], args := [d] }
  | _ => none }
def clothTellsRow : OpenClaim := { program := "ytikddfjickkhhaa", sum := "9f04c910a986e77f26a4a1e6a583ade8d93cac20e32c7ea6f7041b4eacfad767", func := "tapestry/tapestrylaw8.ClothTells", spec := "clothTells", unfollowed := true, recurses := true, apart := false }
def ClothTellsSaid : Prop := clothTellsRow.holds Try.pinned (OpenSpec.ofChange clothTellsSpec)

/-- ITS FALSE NEIGHBOUR: 'it returns false'. Refute it at one input. -/
def clothTellsWrong : ChangeSpec := { name := "clothTells", fn := fun _ => fun
  | [d] => { results := [.lit (.bool false)], args := [d] }
  | _ => none }
def ClothTellsWrongFalsely : Prop := clothTellsRow.holds Try.pinned (OpenSpec.ofChange clothTellsWrong)

/-- 'tapestrylaw8.ClothLayers': WHATEVER THE INPUT: true; the input reads as it did. -/
def clothLayersSpec : ChangeSpec := { name := "clothLayers", fn := fun _ => fun
  | [d1, d2] => { results := [.lit (.bool true)], args := [d1, d2] }
  | _ => none }
def clothLayersRow : OpenClaim := { program := "ytikddfjickkhhaa", sum := "9f04c910a986e77f26a4a1e6a583ade8d93cac20e32c7ea6f7041b4eacfad767", func := "tapestry/tapestrylaw8.ClothLayers", spec := "clothLayers", unfollowed := true, recurses := true, apart := false }
def ClothLayersSaid : Prop := clothLayersRow.holds Try.pinned (OpenSpec.ofChange clothLayersSpec)

/-- ITS FALSE NEIGHBOUR: 'it returns false'. Refute it at one input. -/
def clothLayersWrong : ChangeSpec := { name := "clothLayers", fn := fun _ => fun
  | [d1, d2] => { results := [.lit (.bool false)], args := [d1, d2] }
  | _ => none }
def ClothLayersWrongFalsely : Prop := clothLayersRow.holds Try.pinned (OpenSpec.ofChange clothLayersWrong)

/-- 'tapestrylaw8.ClothTurned': WHATEVER THE INPUT: true; the input reads as it did. -/
def clothTurnedSpec : ChangeSpec := { name := "clothTurned", fn := fun _ => fun
  | [d] => { results := [.lit (.bool true)], args := [d] }
  | _ => none }
def clothTurnedRow : OpenClaim := { program := "ytikddfjickkhhaa", sum := "9f04c910a986e77f26a4a1e6a583ade8d93cac20e32c7ea6f7041b4eacfad767", func := "tapestry/tapestrylaw8.ClothTurned", spec := "clothTurned", unfollowed := true, recurses := true, apart := false }
def ClothTurnedSaid : Prop := clothTurnedRow.holds Try.pinned (OpenSpec.ofChange clothTurnedSpec)

/-- ITS FALSE NEIGHBOUR: 'it returns false'. Refute it at one input. -/
def clothTurnedWrong : ChangeSpec := { name := "clothTurned", fn := fun _ => fun
  | [d] => { results := [.lit (.bool false)], args := [d] }
  | _ => none }
def ClothTurnedWrongFalsely : Prop := clothTurnedRow.holds Try.pinned (OpenSpec.ofChange clothTurnedWrong)

/-- 'tapestrylaw5.TruthFloats': WHATEVER THE INPUT: true; the input reads as it did. -/
def truthFloatsSpec : ChangeSpec := { name := "truthFloats", fn := fun _ => fun
  | [d1, d2] => { results := [.lit (.bool true)], args := [d1, d2] }
  | _ => none }
def truthFloatsRow : OpenClaim := { program := "ytikddfjickkhhaa", sum := "9f04c910a986e77f26a4a1e6a583ade8d93cac20e32c7ea6f7041b4eacfad767", func := "tapestry/tapestrylaw5.TruthFloats", spec := "truthFloats", unfollowed := true, recurses := true, apart := false }
def TruthFloatsSaid : Prop := truthFloatsRow.holds Try.pinned (OpenSpec.ofChange truthFloatsSpec)

/-- ITS FALSE NEIGHBOUR: 'it returns false'. Refute it at one input. -/
def truthFloatsWrong : ChangeSpec := { name := "truthFloats", fn := fun _ => fun
  | [d1, d2] => { results := [.lit (.bool false)], args := [d1, d2] }
  | _ => none }
def TruthFloatsWrongFalsely : Prop := truthFloatsRow.holds Try.pinned (OpenSpec.ofChange truthFloatsWrong)

/-- 'tapestrylaw7.TwillMakes': WHATEVER THE INPUT: true; the input reads as it did. -/
def twillMakesSpec : ChangeSpec := { name := "twillMakes", fn := fun _ => fun
  | [d1, d2, d3, d4] => { results := [.lit (.bool true)], args := [d1, d2, d3, d4] }
  | _ => none }
def twillMakesRow : OpenClaim := { program := "ytikddfjickkhhaa", sum := "9f04c910a986e77f26a4a1e6a583ade8d93cac20e32c7ea6f7041b4eacfad767", func := "tapestry/tapestrylaw7.TwillMakes", spec := "twillMakes", unfollowed := true, recurses := true, apart := false }
def TwillMakesSaid : Prop := twillMakesRow.holds Try.pinned (OpenSpec.ofChange twillMakesSpec)

/-- ITS FALSE NEIGHBOUR: 'it returns false'. Refute it at one input. -/
def twillMakesWrong : ChangeSpec := { name := "twillMakes", fn := fun _ => fun
  | [d1, d2, d3, d4] => { results := [.lit (.bool false)], args := [d1, d2, d3, d4] }
  | _ => none }
def TwillMakesWrongFalsely : Prop := twillMakesRow.holds Try.pinned (OpenSpec.ofChange twillMakesWrong)

/-- 'tapestrylaw5.TruthTells': WHATEVER THE INPUT: true; the input reads as it did. -/
def truthTellsSpec : ChangeSpec := { name := "truthTells", fn := fun _ => fun
  | [d1, d2] => { results := [.lit (.bool true)], args := [d1, d2] }
  | _ => none }
def truthTellsRow : OpenClaim := { program := "ytikddfjickkhhaa", sum := "9f04c910a986e77f26a4a1e6a583ade8d93cac20e32c7ea6f7041b4eacfad767", func := "tapestry/tapestrylaw5.TruthTells", spec := "truthTells", unfollowed := true, recurses := true, apart := false }
def TruthTellsSaid : Prop := truthTellsRow.holds Try.pinned (OpenSpec.ofChange truthTellsSpec)

/-- ITS FALSE NEIGHBOUR: 'it returns false'. Refute it at one input. -/
def truthTellsWrong : ChangeSpec := { name := "truthTells", fn := fun _ => fun
  | [d1, d2] => { results := [.lit (.bool false)], args := [d1, d2] }
  | _ => none }
def TruthTellsWrongFalsely : Prop := truthTellsRow.holds Try.pinned (OpenSpec.ofChange truthTellsWrong)

/-- 'tapestrylaw6.DraftFewest': WHATEVER THE INPUT: true; the input reads as it did. -/
def draftFewestSpec : ChangeSpec := { name := "draftFewest", fn := fun _ => fun
  | [d1, d2] => { results := [.lit (.bool true)], args := [d1, d2] }
  | _ => none }
def draftFewestRow : OpenClaim := { program := "ytikddfjickkhhaa", sum := "9f04c910a986e77f26a4a1e6a583ade8d93cac20e32c7ea6f7041b4eacfad767", func := "tapestry/tapestrylaw6.DraftFewest", spec := "draftFewest", unfollowed := true, recurses := true, apart := false }
def DraftFewestSaid : Prop := draftFewestRow.holds Try.pinned (OpenSpec.ofChange draftFewestSpec)

/-- ITS FALSE NEIGHBOUR: 'it returns false'. Refute it at one input. -/
def draftFewestWrong : ChangeSpec := { name := "draftFewest", fn := fun _ => fun
  | [d1, d2] => { results := [.lit (.bool false)], args := [d1, d2] }
  | _ => none }
def DraftFewestWrongFalsely : Prop := draftFewestRow.holds Try.pinned (OpenSpec.ofChange draftFewestWrong)

/-- 'tapestrylaw6.DraftTells': WHATEVER THE INPUT: true; the input reads as it did. -/
def draftTellsSpec : ChangeSpec := { name := "draftTells", fn := fun _ => fun
  | [d1, d2] => { results := [.lit (.bool true)], args := [d1, d2] }
  | _ => none }
def draftTellsRow : OpenClaim := { program := "ytikddfjickkhhaa", sum := "9f04c910a986e77f26a4a1e6a583ade8d93cac20e32c7ea6f7041b4eacfad767", func := "tapestry/tapestrylaw6.DraftTells", spec := "draftTells", unfollowed := true, recurses := true, apart := false }
def DraftTellsSaid : Prop := draftTellsRow.holds Try.pinned (OpenSpec.ofChange draftTellsSpec)

/-- ITS FALSE NEIGHBOUR: 'it returns false'. Refute it at one input. -/
def draftTellsWrong : ChangeSpec := { name := "draftTells", fn := fun _ => fun
  | [d1, d2] => { results := [.lit (.bool false)], args := [d1, d2] }
  | _ => none }
def DraftTellsWrongFalsely : Prop := draftTellsRow.holds Try.pinned (OpenSpec.ofChange draftTellsWrong)

/-- 'tapestrylaw7.TwillRuns': WHATEVER THE INPUT: true; the input reads as it did. -/
def twillRunsSpec : ChangeSpec := { name := "twillRuns", fn := fun _ => fun
  | [d1, d2] => { results := [.lit (.bool true)], args := [d1, d2] }
  | _ => none }
def twillRunsRow : OpenClaim := { program := "ytikddfjickkhhaa", sum := "9f04c910a986e77f26a4a1e6a583ade8d93cac20e32c7ea6f7041b4eacfad767", func := "tapestry/tapestrylaw7.TwillRuns", spec := "twillRuns", unfollowed := true, recurses := true, apart := false }
def TwillRunsSaid : Prop := twillRunsRow.holds Try.pinned (OpenSpec.ofChange twillRunsSpec)

/-- ITS FALSE NEIGHBOUR: 'it returns false'. Refute it at one input. -/
def twillRunsWrong : ChangeSpec := { name := "twillRuns", fn := fun _ => fun
  | [d1, d2] => { results := [.lit (.bool false)], args := [d1, d2] }
  | _ => none }
def TwillRunsWrongFalsely : Prop := twillRunsRow.holds Try.pinned (OpenSpec.ofChange twillRunsWrong)

/- THE SECOND FORM. 'bulk': how many values and letters a reading holds, each counted each time it is reached (what is shared counts as often as it is met; a slice's spare places count too). A statement '..UptoSaid' is the law's where the arguments, and the package variables that the reading takes, are together of bulk at most 1048576: NARROWER than '..Said'. Prove '..Said' where nothing that the law and all that it calls make is longer than what came in: it says more and counts as full. Else prove '..UptoSaid'. A law counts once. -/
mutual
def uptoBulk {H : Type} : DataW H → Nat
  | .lit (.string bytes) => bytes.length + 1
  | .lit _ => 1
  | .nil => 1
  | .ptr d => uptoBulk d + 1
  | .slice elems spare => uptoBulkAll elems + uptoBulkAll spare + 1
  | .agg parts => uptoBulkAll parts + 1
  | .iface _ d => uptoBulk d + 1
  | .map entries => uptoBulkEntries entries + 1
  | .held _ => 1
def uptoBulkAll {H : Type} : List (DataW H) → Nat
  | [] => 0
  | d :: r => uptoBulk d + uptoBulkAll r
def uptoBulkEntries {H : Type} : List (Lit × DataW H) → Nat
  | [] => 0
  | x :: r => uptoBulkEntry x + uptoBulkEntries r
def uptoBulkEntry {H : Type} : Lit × DataW H → Nat
  | (.string bytes, d) => bytes.length + uptoBulk d + 1
  | (_, d) => uptoBulk d + 1
 end
def uptoSmall : (H : Type) → List (DataW H) → Bool := fun _ ds => decide (uptoBulkAll ds ≤ 1048576)
def OpenSpec.upto (s : _root_.Go.ChangeSpec) : _root_.Go.OpenSpec := { _root_.Go.OpenSpec.ofChange s with cond := some uptoSmall }

/-- 'tapestrylaw7.TwillSatin', WHERE WHAT IT READS IS OF BULK AT MOST 1048576: true; the input reads as it did. -/
def twillSatinUptoRow : OpenClaim := { program := "ytikddfjickkhhaa", sum := "9f04c910a986e77f26a4a1e6a583ade8d93cac20e32c7ea6f7041b4eacfad767", func := "tapestry/tapestrylaw7.TwillSatin", spec := "twillSatin", apart := false, narrowed := true }
def TwillSatinUptoSaid : Prop := twillSatinUptoRow.holds Try.pinned (OpenSpec.upto twillSatinSpec)

/-- 'tapestrylaw8.ClothHangs', WHERE WHAT IT READS IS OF BULK AT MOST 1048576: true; the input reads as it did. -/
def clothHangsUptoRow : OpenClaim := { program := "ytikddfjickkhhaa", sum := "9f04c910a986e77f26a4a1e6a583ade8d93cac20e32c7ea6f7041b4eacfad767", func := "tapestry/tapestrylaw8.ClothHangs", spec := "clothHangs", unfollowed := true, recurses := true, apart := false, narrowed := true }
def ClothHangsUptoSaid : Prop := clothHangsUptoRow.holds Try.pinned (OpenSpec.upto clothHangsSpec)

/-- 'tapestrylaw5.TruthProducts', WHERE WHAT IT READS IS OF BULK AT MOST 1048576: true; the input reads as it did. -/
def truthProductsUptoRow : OpenClaim := { program := "ytikddfjickkhhaa", sum := "9f04c910a986e77f26a4a1e6a583ade8d93cac20e32c7ea6f7041b4eacfad767", func := "tapestry/tapestrylaw5.TruthProducts", spec := "truthProducts", unfollowed := true, recurses := true, apart := false, narrowed := true }
def TruthProductsUptoSaid : Prop := truthProductsUptoRow.holds Try.pinned (OpenSpec.upto truthProductsSpec)

/-- 'tapestrylaw8.ClothTells', WHERE WHAT IT READS IS OF BULK AT MOST 1048576: true; the input reads as it did. -/
def clothTellsUptoRow : OpenClaim := { program := "ytikddfjickkhhaa", sum := "9f04c910a986e77f26a4a1e6a583ade8d93cac20e32c7ea6f7041b4eacfad767", func := "tapestry/tapestrylaw8.ClothTells", spec := "clothTells", unfollowed := true, recurses := true, apart := false, narrowed := true }
def ClothTellsUptoSaid : Prop := clothTellsUptoRow.holds Try.pinned (OpenSpec.upto clothTellsSpec)

/-- 'tapestrylaw8.ClothLayers', WHERE WHAT IT READS IS OF BULK AT MOST 1048576: true; the input reads as it did. -/
def clothLayersUptoRow : OpenClaim := { program := "ytikddfjickkhhaa", sum := "9f04c910a986e77f26a4a1e6a583ade8d93cac20e32c7ea6f7041b4eacfad767", func := "tapestry/tapestrylaw8.ClothLayers", spec := "clothLayers", unfollowed := true, recurses := true, apart := false, narrowed := true }
def ClothLayersUptoSaid : Prop := clothLayersUptoRow.holds Try.pinned (OpenSpec.upto clothLayersSpec)

/-- 'tapestrylaw8.ClothTurned', WHERE WHAT IT READS IS OF BULK AT MOST 1048576: true; the input reads as it did. -/
def clothTurnedUptoRow : OpenClaim := { program := "ytikddfjickkhhaa", sum := "9f04c910a986e77f26a4a1e6a583ade8d93cac20e32c7ea6f7041b4eacfad767", func := "tapestry/tapestrylaw8.ClothTurned", spec := "clothTurned", unfollowed := true, recurses := true, apart := false, narrowed := true }
def ClothTurnedUptoSaid : Prop := clothTurnedUptoRow.holds Try.pinned (OpenSpec.upto clothTurnedSpec)

/-- 'tapestrylaw5.TruthFloats', WHERE WHAT IT READS IS OF BULK AT MOST 1048576: true; the input reads as it did. -/
def truthFloatsUptoRow : OpenClaim := { program := "ytikddfjickkhhaa", sum := "9f04c910a986e77f26a4a1e6a583ade8d93cac20e32c7ea6f7041b4eacfad767", func := "tapestry/tapestrylaw5.TruthFloats", spec := "truthFloats", unfollowed := true, recurses := true, apart := false, narrowed := true }
def TruthFloatsUptoSaid : Prop := truthFloatsUptoRow.holds Try.pinned (OpenSpec.upto truthFloatsSpec)

/-- 'tapestrylaw7.TwillMakes', WHERE WHAT IT READS IS OF BULK AT MOST 1048576: true; the input reads as it did. -/
def twillMakesUptoRow : OpenClaim := { program := "ytikddfjickkhhaa", sum := "9f04c910a986e77f26a4a1e6a583ade8d93cac20e32c7ea6f7041b4eacfad767", func := "tapestry/tapestrylaw7.TwillMakes", spec := "twillMakes", unfollowed := true, recurses := true, apart := false, narrowed := true }
def TwillMakesUptoSaid : Prop := twillMakesUptoRow.holds Try.pinned (OpenSpec.upto twillMakesSpec)

/-- 'tapestrylaw5.TruthTells', WHERE WHAT IT READS IS OF BULK AT MOST 1048576: true; the input reads as it did. -/
def truthTellsUptoRow : OpenClaim := { program := "ytikddfjickkhhaa", sum := "9f04c910a986e77f26a4a1e6a583ade8d93cac20e32c7ea6f7041b4eacfad767", func := "tapestry/tapestrylaw5.TruthTells", spec := "truthTells", unfollowed := true, recurses := true, apart := false, narrowed := true }
def TruthTellsUptoSaid : Prop := truthTellsUptoRow.holds Try.pinned (OpenSpec.upto truthTellsSpec)

/-- 'tapestrylaw6.DraftFewest', WHERE WHAT IT READS IS OF BULK AT MOST 1048576: true; the input reads as it did. -/
def draftFewestUptoRow : OpenClaim := { program := "ytikddfjickkhhaa", sum := "9f04c910a986e77f26a4a1e6a583ade8d93cac20e32c7ea6f7041b4eacfad767", func := "tapestry/tapestrylaw6.DraftFewest", spec := "draftFewest", unfollowed := true, recurses := true, apart := false, narrowed := true }
def DraftFewestUptoSaid : Prop := draftFewestUptoRow.holds Try.pinned (OpenSpec.upto draftFewestSpec)

/-- 'tapestrylaw6.DraftTells', WHERE WHAT IT READS IS OF BULK AT MOST 1048576: true; the input reads as it did. -/
def draftTellsUptoRow : OpenClaim := { program := "ytikddfjickkhhaa", sum := "9f04c910a986e77f26a4a1e6a583ade8d93cac20e32c7ea6f7041b4eacfad767", func := "tapestry/tapestrylaw6.DraftTells", spec := "draftTells", unfollowed := true, recurses := true, apart := false, narrowed := true }
def DraftTellsUptoSaid : Prop := draftTellsUptoRow.holds Try.pinned (OpenSpec.upto draftTellsSpec)

/-- 'tapestrylaw7.TwillRuns', WHERE WHAT IT READS IS OF BULK AT MOST 1048576: true; the input reads as it did. -/
def twillRunsUptoRow : OpenClaim := { program := "ytikddfjickkhhaa", sum := "9f04c910a986e77f26a4a1e6a583ade8d93cac20e32c7ea6f7041b4eacfad767", func := "tapestry/tapestrylaw7.TwillRuns", spec := "twillRuns", unfollowed := true, recurses := true, apart := false, narrowed := true }
def TwillRunsUptoSaid : Prop := twillRunsUptoRow.holds Try.pinned (OpenSpec.upto twillRunsSpec)

end Rows
end Go.Proofs.Ytikddfjickkhhaa
