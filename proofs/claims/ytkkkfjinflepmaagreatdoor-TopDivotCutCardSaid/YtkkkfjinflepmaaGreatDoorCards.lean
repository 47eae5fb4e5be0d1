/-
  DERIVED. GIVEN WITH THE SEED: THE CARDS: each row of YtkkkfjinflepmaaGreatDoorRows.lean that lists a variable, with what it lists TIED to the program's text (the seventh form; the later family's looks); each row that meets fmt, with fmt's text TOLD by the authors' own Lean function (tested against real Go, not proved from fmt's source: count such statements apart). THE CARD IS WHAT COUNTS. Prove the row's statement (the work); the ties are given (YtkkkfjinflepmaaGreatDoorTie.lean); close each card by the builder's one call (the guide's Derived/Test/ToyasCard.lean, 'card_holds'). Laid BY PROGRAM, IN A SANDBOX (cutbox-door.mjs). By AI agents, Wed Nov 11 2026. No macro, syntax, notation, axiom, sorry.
-/
import Derived.Test.YtkkkfjinflepmaaGreatDoorRows
import GoSem.ClaimSeven
namespace Go.Proofs.YtkkkfjinflepmaaGreatDoor
namespace Rows

/-- THE TIED CARD OF 'niblicktop.TopDivotMatches'. -/
def topDivotMatchesCard : Claim7 := { stood := { row := topDivotMatchesRow, standIns := [], harness := (true, "8a7ab0f43aca87a5b811c7ca071f11ea24031c6e5332b4095c2e6aa9628072db"), looks := false }, kinds := [], alts := [], laidByText := true, laidKinds := [.data, .data, .data], laidTests := true, laidLooks := .later }
def TopDivotMatchesCardSaid : Prop := Claim7.holds Tryz.pinned (.plain (OpenSpec.ofChange topDivotMatchesSpec)) topDivotMatchesCard

/-- THE TIED CARD OF 'niblicktop.TopDivotShared'. -/
def topDivotSharedCard : Claim7 := { stood := { row := topDivotSharedRow, standIns := [], harness := (true, "8a7ab0f43aca87a5b811c7ca071f11ea24031c6e5332b4095c2e6aa9628072db"), looks := false }, kinds := [], alts := [], laidByText := true, laidKinds := [.data, .data, .data], laidTests := true, laidLooks := .later }
def TopDivotSharedCardSaid : Prop := Claim7.holds Tryz.pinned (.plain (OpenSpec.ofChange topDivotSharedSpec)) topDivotSharedCard

/-- THE TIED CARD OF 'niblicktop.TopDivotKnockout'. -/
def topDivotKnockoutCard : Claim7 := { stood := { row := topDivotKnockoutRow, standIns := [], harness := (true, "8a7ab0f43aca87a5b811c7ca071f11ea24031c6e5332b4095c2e6aa9628072db"), looks := false }, kinds := [], alts := [], laidByText := true, laidKinds := [.data, .data, .data], laidTests := true, laidLooks := .later }
def TopDivotKnockoutCardSaid : Prop := Claim7.holds Tryz.pinned (.plain (OpenSpec.ofChange topDivotKnockoutSpec)) topDivotKnockoutCard

/-- THE TIED CARD OF 'niblicktop.TopDivotCut'. -/
def topDivotCutCard : Claim7 := { stood := { row := topDivotCutRow, standIns := [], harness := (true, "8a7ab0f43aca87a5b811c7ca071f11ea24031c6e5332b4095c2e6aa9628072db"), looks := false }, kinds := [], alts := [], laidByText := true, laidKinds := [.data, .data, .data], laidTests := true, laidLooks := .later }
def TopDivotCutCardSaid : Prop := Claim7.holds Tryz.pinned (.plain (OpenSpec.ofChange topDivotCutSpec)) topDivotCutCard

/-- THE SECOND FORM's CARD OF 'niblicktop.TopDivotMatches'. -/
def topDivotMatchesUptoCard : Claim7 := { stood := { row := topDivotMatchesUptoRow, standIns := [], harness := (true, "8a7ab0f43aca87a5b811c7ca071f11ea24031c6e5332b4095c2e6aa9628072db"), looks := false }, kinds := [], alts := [], laidByText := true, laidKinds := [.data, .data, .data], laidTests := true, laidLooks := .later }
def TopDivotMatchesUptoCardSaid : Prop := Claim7.holds Tryz.pinned (.plain (OpenSpec.upto topDivotMatchesSpec)) topDivotMatchesUptoCard

/-- THE SECOND FORM's CARD OF 'niblicktop.TopDivotShared'. -/
def topDivotSharedUptoCard : Claim7 := { stood := { row := topDivotSharedUptoRow, standIns := [], harness := (true, "8a7ab0f43aca87a5b811c7ca071f11ea24031c6e5332b4095c2e6aa9628072db"), looks := false }, kinds := [], alts := [], laidByText := true, laidKinds := [.data, .data, .data], laidTests := true, laidLooks := .later }
def TopDivotSharedUptoCardSaid : Prop := Claim7.holds Tryz.pinned (.plain (OpenSpec.upto topDivotSharedSpec)) topDivotSharedUptoCard

/-- THE SECOND FORM's CARD OF 'niblicktop.TopDivotKnockout'. -/
def topDivotKnockoutUptoCard : Claim7 := { stood := { row := topDivotKnockoutUptoRow, standIns := [], harness := (true, "8a7ab0f43aca87a5b811c7ca071f11ea24031c6e5332b4095c2e6aa9628072db"), looks := false }, kinds := [], alts := [], laidByText := true, laidKinds := [.data, .data, .data], laidTests := true, laidLooks := .later }
def TopDivotKnockoutUptoCardSaid : Prop := Claim7.holds Tryz.pinned (.plain (OpenSpec.upto topDivotKnockoutSpec)) topDivotKnockoutUptoCard

/-- THE SECOND FORM's CARD OF 'niblicktop.TopDivotCut'. -/
def topDivotCutUptoCard : Claim7 := { stood := { row := topDivotCutUptoRow, standIns := [], harness := (true, "8a7ab0f43aca87a5b811c7ca071f11ea24031c6e5332b4095c2e6aa9628072db"), looks := false }, kinds := [], alts := [], laidByText := true, laidKinds := [.data, .data, .data], laidTests := true, laidLooks := .later }
def TopDivotCutUptoCardSaid : Prop := Claim7.holds Tryz.pinned (.plain (OpenSpec.upto topDivotCutSpec)) topDivotCutUptoCard
end Rows
end Go.Proofs.YtkkkfjinflepmaaGreatDoor
