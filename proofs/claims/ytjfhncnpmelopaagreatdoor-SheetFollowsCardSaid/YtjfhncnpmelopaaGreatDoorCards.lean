/-
  DERIVED. GIVEN WITH THE SEED: THE CARDS: each row of YtjfhncnpmelopaaGreatDoorRows.lean that lists a variable, with what it lists TIED to the program's text (the seventh form; the later family's looks); each row that meets fmt, with fmt's text TOLD by the authors' own Lean function (tested against real Go, not proved from fmt's source: count such statements apart). THE CARD IS WHAT COUNTS. Prove the row's statement (the work); the ties are given (YtjfhncnpmelopaaGreatDoorTie.lean); close each card by the builder's one call (the guide's Derived/Test/ToyasCard.lean, 'card_holds'). Laid BY PROGRAM, IN A SANDBOX (cutbox-door.mjs). By AI agents, Wed Nov 11 2026. No macro, syntax, notation, axiom, sorry.
-/
import Derived.Test.YtjfhncnpmelopaaGreatDoorRows
import GoSem.ClaimSeven
namespace Go.Proofs.YtjfhncnpmelopaaGreatDoor
namespace Rows

/-- THE TIED CARD OF 'niblicklaw08.SheetBest'. -/
def sheetBestCard : Claim7 := { stood := { row := sheetBestRow, standIns := [], harness := (true, "7ae1d71276d69ae6eec9d1dc5d77296841f9770951bf5294a9f1763455184a96"), looks := false }, kinds := [], alts := [], laidByText := true, laidKinds := [.data, .data, .data], laidTests := true, laidLooks := .later }
def SheetBestCardSaid : Prop := Claim7.holds Tryz.pinned (.plain (OpenSpec.ofChange sheetBestSpec)) sheetBestCard

/-- THE TIED CARD OF 'niblicklaw08.SheetGrows'. -/
def sheetGrowsCard : Claim7 := { stood := { row := sheetGrowsRow, standIns := [], harness := (true, "7ae1d71276d69ae6eec9d1dc5d77296841f9770951bf5294a9f1763455184a96"), looks := false }, kinds := [], alts := [], laidByText := true, laidKinds := [.data, .data, .data], laidTests := true, laidLooks := .later }
def SheetGrowsCardSaid : Prop := Claim7.holds Tryz.pinned (.plain (OpenSpec.ofChange sheetGrowsSpec)) sheetGrowsCard

/-- THE TIED CARD OF 'niblicklaw08.SheetPaces'. -/
def sheetPacesCard : Claim7 := { stood := { row := sheetPacesRow, standIns := [], harness := (true, "7ae1d71276d69ae6eec9d1dc5d77296841f9770951bf5294a9f1763455184a96"), looks := false }, kinds := [], alts := [], laidByText := true, laidKinds := [.data, .data, .data], laidTests := true, laidLooks := .later }
def SheetPacesCardSaid : Prop := Claim7.holds Tryz.pinned (.plain (OpenSpec.ofChange sheetPacesSpec)) sheetPacesCard

/-- THE TIED CARD OF 'niblicklaw08.SheetFollows'. -/
def sheetFollowsCard : Claim7 := { stood := { row := sheetFollowsRow, standIns := [], harness := (true, "7ae1d71276d69ae6eec9d1dc5d77296841f9770951bf5294a9f1763455184a96"), looks := false }, kinds := [], alts := [], laidByText := true, laidKinds := [.data, .data, .data], laidTests := true, laidLooks := .later }
def SheetFollowsCardSaid : Prop := Claim7.holds Tryz.pinned (.plain (OpenSpec.ofChange sheetFollowsSpec)) sheetFollowsCard

/-- THE TIED CARD OF 'niblicklaw08.SheetProofs'. -/
def sheetProofsCard : Claim7 := { stood := { row := sheetProofsRow, standIns := [], harness := (true, "7ae1d71276d69ae6eec9d1dc5d77296841f9770951bf5294a9f1763455184a96"), looks := false }, kinds := [], alts := [], laidByText := true, laidKinds := [.data, .data, .data], laidTests := true, laidLooks := .later }
def SheetProofsCardSaid : Prop := Claim7.holds Tryz.pinned (.plain (OpenSpec.ofChange sheetProofsSpec)) sheetProofsCard

/-- THE TIED CARD OF 'niblicklaw08.SheetCertain'. -/
def sheetCertainCard : Claim7 := { stood := { row := sheetCertainRow, standIns := [], harness := (true, "7ae1d71276d69ae6eec9d1dc5d77296841f9770951bf5294a9f1763455184a96"), looks := false }, kinds := [], alts := [], laidByText := true, laidKinds := [.data, .data, .data], laidTests := true, laidLooks := .later }
def SheetCertainCardSaid : Prop := Claim7.holds Tryz.pinned (.plain (OpenSpec.ofChange sheetCertainSpec)) sheetCertainCard

/-- THE TIED CARD OF 'niblicklaw08.SheetMeans'. -/
def sheetMeansCard : Claim7 := { stood := { row := sheetMeansRow, standIns := [], harness := (true, "7ae1d71276d69ae6eec9d1dc5d77296841f9770951bf5294a9f1763455184a96"), looks := false }, kinds := [], alts := [], laidByText := true, laidKinds := [.data, .data, .data], laidTests := true, laidLooks := .later }
def SheetMeansCardSaid : Prop := Claim7.holds Tryz.pinned (.plain (OpenSpec.ofChange sheetMeansSpec)) sheetMeansCard

/-- THE TIED CARD OF 'niblicklaw08.SheetMatrices'. -/
def sheetMatricesCard : Claim7 := { stood := { row := sheetMatricesRow, standIns := [], harness := (true, "7ae1d71276d69ae6eec9d1dc5d77296841f9770951bf5294a9f1763455184a96"), looks := false }, kinds := [], alts := [], laidByText := true, laidKinds := [.data, .data, .data], laidTests := true, laidLooks := .later }
def SheetMatricesCardSaid : Prop := Claim7.holds Tryz.pinned (.plain (OpenSpec.ofChange sheetMatricesSpec)) sheetMatricesCard

/-- THE TIED CARD OF 'niblicklaw08.SheetAlgebra'. -/
def sheetAlgebraCard : Claim7 := { stood := { row := sheetAlgebraRow, standIns := [], harness := (true, "7ae1d71276d69ae6eec9d1dc5d77296841f9770951bf5294a9f1763455184a96"), looks := false }, kinds := [], alts := [], laidByText := true, laidKinds := [.data, .data, .data], laidTests := true, laidLooks := .later }
def SheetAlgebraCardSaid : Prop := Claim7.holds Tryz.pinned (.plain (OpenSpec.ofChange sheetAlgebraSpec)) sheetAlgebraCard

/-- THE SECOND FORM's CARD OF 'niblicklaw08.SheetBest'. -/
def sheetBestUptoCard : Claim7 := { stood := { row := sheetBestUptoRow, standIns := [], harness := (true, "7ae1d71276d69ae6eec9d1dc5d77296841f9770951bf5294a9f1763455184a96"), looks := false }, kinds := [], alts := [], laidByText := true, laidKinds := [.data, .data, .data], laidTests := true, laidLooks := .later }
def SheetBestUptoCardSaid : Prop := Claim7.holds Tryz.pinned (.plain (OpenSpec.upto sheetBestSpec)) sheetBestUptoCard

/-- THE SECOND FORM's CARD OF 'niblicklaw08.SheetGrows'. -/
def sheetGrowsUptoCard : Claim7 := { stood := { row := sheetGrowsUptoRow, standIns := [], harness := (true, "7ae1d71276d69ae6eec9d1dc5d77296841f9770951bf5294a9f1763455184a96"), looks := false }, kinds := [], alts := [], laidByText := true, laidKinds := [.data, .data, .data], laidTests := true, laidLooks := .later }
def SheetGrowsUptoCardSaid : Prop := Claim7.holds Tryz.pinned (.plain (OpenSpec.upto sheetGrowsSpec)) sheetGrowsUptoCard

/-- THE SECOND FORM's CARD OF 'niblicklaw08.SheetPaces'. -/
def sheetPacesUptoCard : Claim7 := { stood := { row := sheetPacesUptoRow, standIns := [], harness := (true, "7ae1d71276d69ae6eec9d1dc5d77296841f9770951bf5294a9f1763455184a96"), looks := false }, kinds := [], alts := [], laidByText := true, laidKinds := [.data, .data, .data], laidTests := true, laidLooks := .later }
def SheetPacesUptoCardSaid : Prop := Claim7.holds Tryz.pinned (.plain (OpenSpec.upto sheetPacesSpec)) sheetPacesUptoCard

/-- THE SECOND FORM's CARD OF 'niblicklaw08.SheetFollows'. -/
def sheetFollowsUptoCard : Claim7 := { stood := { row := sheetFollowsUptoRow, standIns := [], harness := (true, "7ae1d71276d69ae6eec9d1dc5d77296841f9770951bf5294a9f1763455184a96"), looks := false }, kinds := [], alts := [], laidByText := true, laidKinds := [.data, .data, .data], laidTests := true, laidLooks := .later }
def SheetFollowsUptoCardSaid : Prop := Claim7.holds Tryz.pinned (.plain (OpenSpec.upto sheetFollowsSpec)) sheetFollowsUptoCard

/-- THE SECOND FORM's CARD OF 'niblicklaw08.SheetProofs'. -/
def sheetProofsUptoCard : Claim7 := { stood := { row := sheetProofsUptoRow, standIns := [], harness := (true, "7ae1d71276d69ae6eec9d1dc5d77296841f9770951bf5294a9f1763455184a96"), looks := false }, kinds := [], alts := [], laidByText := true, laidKinds := [.data, .data, .data], laidTests := true, laidLooks := .later }
def SheetProofsUptoCardSaid : Prop := Claim7.holds Tryz.pinned (.plain (OpenSpec.upto sheetProofsSpec)) sheetProofsUptoCard

/-- THE SECOND FORM's CARD OF 'niblicklaw08.SheetCertain'. -/
def sheetCertainUptoCard : Claim7 := { stood := { row := sheetCertainUptoRow, standIns := [], harness := (true, "7ae1d71276d69ae6eec9d1dc5d77296841f9770951bf5294a9f1763455184a96"), looks := false }, kinds := [], alts := [], laidByText := true, laidKinds := [.data, .data, .data], laidTests := true, laidLooks := .later }
def SheetCertainUptoCardSaid : Prop := Claim7.holds Tryz.pinned (.plain (OpenSpec.upto sheetCertainSpec)) sheetCertainUptoCard

/-- THE SECOND FORM's CARD OF 'niblicklaw08.SheetMeans'. -/
def sheetMeansUptoCard : Claim7 := { stood := { row := sheetMeansUptoRow, standIns := [], harness := (true, "7ae1d71276d69ae6eec9d1dc5d77296841f9770951bf5294a9f1763455184a96"), looks := false }, kinds := [], alts := [], laidByText := true, laidKinds := [.data, .data, .data], laidTests := true, laidLooks := .later }
def SheetMeansUptoCardSaid : Prop := Claim7.holds Tryz.pinned (.plain (OpenSpec.upto sheetMeansSpec)) sheetMeansUptoCard

/-- THE SECOND FORM's CARD OF 'niblicklaw08.SheetMatrices'. -/
def sheetMatricesUptoCard : Claim7 := { stood := { row := sheetMatricesUptoRow, standIns := [], harness := (true, "7ae1d71276d69ae6eec9d1dc5d77296841f9770951bf5294a9f1763455184a96"), looks := false }, kinds := [], alts := [], laidByText := true, laidKinds := [.data, .data, .data], laidTests := true, laidLooks := .later }
def SheetMatricesUptoCardSaid : Prop := Claim7.holds Tryz.pinned (.plain (OpenSpec.upto sheetMatricesSpec)) sheetMatricesUptoCard

/-- THE SECOND FORM's CARD OF 'niblicklaw08.SheetAlgebra'. -/
def sheetAlgebraUptoCard : Claim7 := { stood := { row := sheetAlgebraUptoRow, standIns := [], harness := (true, "7ae1d71276d69ae6eec9d1dc5d77296841f9770951bf5294a9f1763455184a96"), looks := false }, kinds := [], alts := [], laidByText := true, laidKinds := [.data, .data, .data], laidTests := true, laidLooks := .later }
def SheetAlgebraUptoCardSaid : Prop := Claim7.holds Tryz.pinned (.plain (OpenSpec.upto sheetAlgebraSpec)) sheetAlgebraUptoCard
end Rows
end Go.Proofs.YtjfhncnpmelopaaGreatDoor
