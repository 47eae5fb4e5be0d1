/-
  DERIVED. GIVEN WITH THE SEED: THE CARDS: each row of YtlffgdmljioaoaaGreatDoorRows.lean that lists a variable, with what it lists TIED to the program's text (the seventh form; the later family's looks); each row that meets fmt, with fmt's text TOLD by the authors' own Lean function (tested against real Go, not proved from fmt's source: count such statements apart). THE CARD IS WHAT COUNTS. Prove the row's statement (the work); the ties are given (YtlffgdmljioaoaaGreatDoorTie.lean); close each card by the builder's one call (the guide's Derived/Test/ToyasCard.lean, 'card_holds'). Laid BY PROGRAM, IN A SANDBOX (cutbox-door.mjs). By AI agents, Wed Nov 11 2026. No macro, syntax, notation, axiom, sorry.
-/
import Derived.Test.YtlffgdmljioaoaaGreatDoorRows
import GoSem.ClaimSeven
namespace Go.Proofs.YtlffgdmljioaoaaGreatDoor
namespace Rows

/-- THE TIED CARD OF 'niblicklaw08.SheetMeans'. -/
def sheetMeansCard : Claim7 := { stood := { row := sheetMeansRow, standIns := [], harness := (true, "d26093112c2e48458c27708a69aa2c81cd3ef2a59113367227c48caf1b875430"), looks := false }, kinds := [], alts := [], laidByText := true, laidKinds := [.data, .data, .data], laidTests := true, laidLooks := .later }
def SheetMeansCardSaid : Prop := Claim7.holds Tryz.pinned (.plain (OpenSpec.ofChange sheetMeansSpec)) sheetMeansCard

/-- THE TIED CARD OF 'niblicklaw08.SheetAlgebra'. -/
def sheetAlgebraCard : Claim7 := { stood := { row := sheetAlgebraRow, standIns := [], harness := (true, "d26093112c2e48458c27708a69aa2c81cd3ef2a59113367227c48caf1b875430"), looks := false }, kinds := [], alts := [], laidByText := true, laidKinds := [.data, .data, .data], laidTests := true, laidLooks := .later }
def SheetAlgebraCardSaid : Prop := Claim7.holds Tryz.pinned (.plain (OpenSpec.ofChange sheetAlgebraSpec)) sheetAlgebraCard

/-- THE SECOND FORM's CARD OF 'niblicklaw08.SheetMeans'. -/
def sheetMeansUptoCard : Claim7 := { stood := { row := sheetMeansUptoRow, standIns := [], harness := (true, "d26093112c2e48458c27708a69aa2c81cd3ef2a59113367227c48caf1b875430"), looks := false }, kinds := [], alts := [], laidByText := true, laidKinds := [.data, .data, .data], laidTests := true, laidLooks := .later }
def SheetMeansUptoCardSaid : Prop := Claim7.holds Tryz.pinned (.plain (OpenSpec.upto sheetMeansSpec)) sheetMeansUptoCard

/-- THE SECOND FORM's CARD OF 'niblicklaw08.SheetAlgebra'. -/
def sheetAlgebraUptoCard : Claim7 := { stood := { row := sheetAlgebraUptoRow, standIns := [], harness := (true, "d26093112c2e48458c27708a69aa2c81cd3ef2a59113367227c48caf1b875430"), looks := false }, kinds := [], alts := [], laidByText := true, laidKinds := [.data, .data, .data], laidTests := true, laidLooks := .later }
def SheetAlgebraUptoCardSaid : Prop := Claim7.holds Tryz.pinned (.plain (OpenSpec.upto sheetAlgebraSpec)) sheetAlgebraUptoCard
end Rows
end Go.Proofs.YtlffgdmljioaoaaGreatDoor
