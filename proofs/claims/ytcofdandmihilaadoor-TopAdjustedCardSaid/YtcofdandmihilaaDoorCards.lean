/-
  DERIVED. GIVEN WITH THE SEED: THE CARDS: each row of YtcofdandmihilaaDoorRows.lean that lists a variable, with what it lists TIED to the program's text (the seventh form; the later family's looks); each row that meets fmt, with fmt's text TOLD by the authors' own Lean function (tested against real Go, not proved from fmt's source: count such statements apart). THE CARD IS WHAT COUNTS. Prove the row's statement (the work); the ties are given (YtcofdandmihilaaDoorTie.lean); close each card by the builder's one call (the guide's Derived/Test/ToyasCard.lean, 'card_holds'). Laid BY PROGRAM, IN A SANDBOX (cutbox-door.mjs). By AI agents, Wed Nov 11 2026. No macro, syntax, notation, axiom, sorry.
-/
import Derived.Test.YtcofdandmihilaaDoorRows
import GoSem.ClaimSeven
namespace Go.Proofs.YtcofdandmihilaaDoor
namespace Rows

/-- THE TIED CARD OF 'niblicktop.TopAdjusted'. -/
def topAdjustedCard : Claim7 := { stood := { row := topAdjustedRow, standIns := [], harness := (true, "2a63b38ebfb618c8a8be442f8ba6368fc6b9b11088c752491b25c35b22bc3907"), looks := false }, kinds := [], alts := [], laidByText := true, laidKinds := [.data, .data, .data], laidTests := true, laidLooks := .later }
def TopAdjustedCardSaid : Prop := Claim7.holds Tryd.pinned (.plain (OpenSpec.ofChange topAdjustedSpec)) topAdjustedCard

/-- THE SECOND FORM's CARD OF 'niblicktop.TopAdjusted'. -/
def topAdjustedUptoCard : Claim7 := { stood := { row := topAdjustedUptoRow, standIns := [], harness := (true, "2a63b38ebfb618c8a8be442f8ba6368fc6b9b11088c752491b25c35b22bc3907"), looks := false }, kinds := [], alts := [], laidByText := true, laidKinds := [.data, .data, .data], laidTests := true, laidLooks := .later }
def TopAdjustedUptoCardSaid : Prop := Claim7.holds Tryd.pinned (.plain (OpenSpec.upto topAdjustedSpec)) topAdjustedUptoCard
end Rows
end Go.Proofs.YtcofdandmihilaaDoor
