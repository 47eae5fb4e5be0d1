/-
  DERIVED. GIVEN WITH THE SEED: THE CARDS: each row of YtbjjojoggpepjaaGreatDoorRows.lean that lists a variable, with what it lists TIED to the program's text (the seventh form; the later family's looks); each row that meets fmt, with fmt's text TOLD by the authors' own Lean function (tested against real Go, not proved from fmt's source: count such statements apart). THE CARD IS WHAT COUNTS. Prove the row's statement (the work); the ties are given (YtbjjojoggpepjaaGreatDoorTie.lean); close each card by the builder's one call (the guide's Derived/Test/ToyasCard.lean, 'card_holds'). Laid BY PROGRAM, IN A SANDBOX (cutbox-door.mjs). By AI agents, Wed Nov 11 2026. No macro, syntax, notation, axiom, sorry.
-/
import Derived.Test.YtbjjojoggpepjaaGreatDoorRows
import GoSem.ClaimSeven
namespace Go.Proofs.YtbjjojoggpepjaaGreatDoor
namespace Rows

/-- THE TIED CARD OF 'niblicklaw08.SheetRequests'. -/
def sheetRequestsCard : Claim7 := { stood := { row := sheetRequestsRow, standIns := [], harness := (true, "f6c4a8048ce4d4833f0bc57e08043a223514b80000243781f6551581ed2f6cc5"), looks := false }, kinds := [], alts := [], laidByText := true, laidKinds := [.data, .data, .data], laidTests := true, laidLooks := .later }
def SheetRequestsCardSaid : Prop := Claim7.holds Tryz.pinned (.plain (OpenSpec.ofChange sheetRequestsSpec)) sheetRequestsCard

/-- THE TIED CARD OF 'niblicklaw08.SheetExcluded'. -/
def sheetExcludedCard : Claim7 := { stood := { row := sheetExcludedRow, standIns := [], harness := (true, "f6c4a8048ce4d4833f0bc57e08043a223514b80000243781f6551581ed2f6cc5"), looks := false }, kinds := [], alts := [], laidByText := true, laidKinds := [.data, .data, .data], laidTests := true, laidLooks := .later }
def SheetExcludedCardSaid : Prop := Claim7.holds Tryz.pinned (.plain (OpenSpec.ofChange sheetExcludedSpec)) sheetExcludedCard

/-- THE TIED CARD OF 'niblicklaw08.SheetWithdraws'. -/
def sheetWithdrawsCard : Claim7 := { stood := { row := sheetWithdrawsRow, standIns := [], harness := (true, "f6c4a8048ce4d4833f0bc57e08043a223514b80000243781f6551581ed2f6cc5"), looks := false }, kinds := [], alts := [], laidByText := true, laidKinds := [.data, .data, .data], laidTests := true, laidLooks := .later }
def SheetWithdrawsCardSaid : Prop := Claim7.holds Tryz.pinned (.plain (OpenSpec.ofChange sheetWithdrawsSpec)) sheetWithdrawsCard

/-- THE TIED CARD OF 'niblicklaw08.SheetYields'. -/
def sheetYieldsCard : Claim7 := { stood := { row := sheetYieldsRow, standIns := [], harness := (true, "f6c4a8048ce4d4833f0bc57e08043a223514b80000243781f6551581ed2f6cc5"), looks := false }, kinds := [], alts := [], laidByText := true, laidKinds := [.data, .data, .data], laidTests := true, laidLooks := .later }
def SheetYieldsCardSaid : Prop := Claim7.holds Tryz.pinned (.plain (OpenSpec.ofChange sheetYieldsSpec)) sheetYieldsCard

/-- THE TIED CARD OF 'niblicklaw08.SheetPaces'. -/
def sheetPacesCard : Claim7 := { stood := { row := sheetPacesRow, standIns := [], harness := (true, "f6c4a8048ce4d4833f0bc57e08043a223514b80000243781f6551581ed2f6cc5"), looks := false }, kinds := [], alts := [], laidByText := true, laidKinds := [.data, .data, .data], laidTests := true, laidLooks := .later }
def SheetPacesCardSaid : Prop := Claim7.holds Tryz.pinned (.plain (OpenSpec.ofChange sheetPacesSpec)) sheetPacesCard

/-- THE TIED CARD OF 'niblicklaw08.SheetSlots'. -/
def sheetSlotsCard : Claim7 := { stood := { row := sheetSlotsRow, standIns := [], harness := (true, "f6c4a8048ce4d4833f0bc57e08043a223514b80000243781f6551581ed2f6cc5"), looks := false }, kinds := [], alts := [], laidByText := true, laidKinds := [.data, .data, .data], laidTests := true, laidLooks := .later }
def SheetSlotsCardSaid : Prop := Claim7.holds Tryz.pinned (.plain (OpenSpec.ofChange sheetSlotsSpec)) sheetSlotsCard

/-- THE SECOND FORM's CARD OF 'niblicklaw08.SheetRequests'. -/
def sheetRequestsUptoCard : Claim7 := { stood := { row := sheetRequestsUptoRow, standIns := [], harness := (true, "f6c4a8048ce4d4833f0bc57e08043a223514b80000243781f6551581ed2f6cc5"), looks := false }, kinds := [], alts := [], laidByText := true, laidKinds := [.data, .data, .data], laidTests := true, laidLooks := .later }
def SheetRequestsUptoCardSaid : Prop := Claim7.holds Tryz.pinned (.plain (OpenSpec.upto sheetRequestsSpec)) sheetRequestsUptoCard

/-- THE SECOND FORM's CARD OF 'niblicklaw08.SheetExcluded'. -/
def sheetExcludedUptoCard : Claim7 := { stood := { row := sheetExcludedUptoRow, standIns := [], harness := (true, "f6c4a8048ce4d4833f0bc57e08043a223514b80000243781f6551581ed2f6cc5"), looks := false }, kinds := [], alts := [], laidByText := true, laidKinds := [.data, .data, .data], laidTests := true, laidLooks := .later }
def SheetExcludedUptoCardSaid : Prop := Claim7.holds Tryz.pinned (.plain (OpenSpec.upto sheetExcludedSpec)) sheetExcludedUptoCard

/-- THE SECOND FORM's CARD OF 'niblicklaw08.SheetWithdraws'. -/
def sheetWithdrawsUptoCard : Claim7 := { stood := { row := sheetWithdrawsUptoRow, standIns := [], harness := (true, "f6c4a8048ce4d4833f0bc57e08043a223514b80000243781f6551581ed2f6cc5"), looks := false }, kinds := [], alts := [], laidByText := true, laidKinds := [.data, .data, .data], laidTests := true, laidLooks := .later }
def SheetWithdrawsUptoCardSaid : Prop := Claim7.holds Tryz.pinned (.plain (OpenSpec.upto sheetWithdrawsSpec)) sheetWithdrawsUptoCard

/-- THE SECOND FORM's CARD OF 'niblicklaw08.SheetYields'. -/
def sheetYieldsUptoCard : Claim7 := { stood := { row := sheetYieldsUptoRow, standIns := [], harness := (true, "f6c4a8048ce4d4833f0bc57e08043a223514b80000243781f6551581ed2f6cc5"), looks := false }, kinds := [], alts := [], laidByText := true, laidKinds := [.data, .data, .data], laidTests := true, laidLooks := .later }
def SheetYieldsUptoCardSaid : Prop := Claim7.holds Tryz.pinned (.plain (OpenSpec.upto sheetYieldsSpec)) sheetYieldsUptoCard

/-- THE SECOND FORM's CARD OF 'niblicklaw08.SheetPaces'. -/
def sheetPacesUptoCard : Claim7 := { stood := { row := sheetPacesUptoRow, standIns := [], harness := (true, "f6c4a8048ce4d4833f0bc57e08043a223514b80000243781f6551581ed2f6cc5"), looks := false }, kinds := [], alts := [], laidByText := true, laidKinds := [.data, .data, .data], laidTests := true, laidLooks := .later }
def SheetPacesUptoCardSaid : Prop := Claim7.holds Tryz.pinned (.plain (OpenSpec.upto sheetPacesSpec)) sheetPacesUptoCard

/-- THE SECOND FORM's CARD OF 'niblicklaw08.SheetSlots'. -/
def sheetSlotsUptoCard : Claim7 := { stood := { row := sheetSlotsUptoRow, standIns := [], harness := (true, "f6c4a8048ce4d4833f0bc57e08043a223514b80000243781f6551581ed2f6cc5"), looks := false }, kinds := [], alts := [], laidByText := true, laidKinds := [.data, .data, .data], laidTests := true, laidLooks := .later }
def SheetSlotsUptoCardSaid : Prop := Claim7.holds Tryz.pinned (.plain (OpenSpec.upto sheetSlotsSpec)) sheetSlotsUptoCard
end Rows
end Go.Proofs.YtbjjojoggpepjaaGreatDoor
