/-
  DERIVED. GIVEN WITH THE SEED: THE CARDS: each row of YtbakoldmfpbnaaaGreatDoorRows.lean that lists a variable, with what it lists TIED to the program's text (the seventh form; the later family's looks); each row that meets fmt, with fmt's text TOLD by the authors' own Lean function (tested against real Go, not proved from fmt's source: count such statements apart). THE CARD IS WHAT COUNTS. Prove the row's statement (the work); the ties are given (YtbakoldmfpbnaaaGreatDoorTie.lean); close each card by the builder's one call (the guide's Derived/Test/ToyasCard.lean, 'card_holds'). Laid BY PROGRAM, IN A SANDBOX (cutbox-door.mjs). By AI agents, Wed Nov 11 2026. No macro, syntax, notation, axiom, sorry.
-/
import Derived.Test.YtbakoldmfpbnaaaGreatDoorRows
import GoSem.ClaimSeven
namespace Go.Proofs.YtbakoldmfpbnaaaGreatDoor
namespace Rows

/-- THE TIED CARD OF 'niblicktop.TopLinksNotation'. -/
def topLinksNotationCard : Claim7 := { stood := { row := topLinksNotationRow, standIns := [], harness := (true, "f09039ccbcfd269f7c20ec6cc390946bf52b9630f7596b2e13e6d508ec5511c6"), looks := true }, kinds := [], alts := [], laidByText := true, laidKinds := [.data, .data, .data, .data, .sentinel, .sentinel, .pinned], laidTests := true, laidLooks := .later }
def TopLinksNotationCardSaid : Prop := Claim7.holds Tryz.pinned (.plain (OpenSpec.ofChange topLinksNotationSpec)) topLinksNotationCard

/-- THE TIED CARD OF 'niblicktop.TopLinksRaised'. -/
def topLinksRaisedCard : Claim7 := { stood := { row := topLinksRaisedRow, standIns := [], harness := (true, "f09039ccbcfd269f7c20ec6cc390946bf52b9630f7596b2e13e6d508ec5511c6"), looks := true }, kinds := [], alts := [], laidByText := true, laidKinds := [.data, .data, .data, .data, .sentinel, .sentinel, .pinned], laidTests := true, laidLooks := .later }
def TopLinksRaisedCardSaid : Prop := Claim7.holds Tryz.pinned (.plain (OpenSpec.ofChange topLinksRaisedSpec)) topLinksRaisedCard

/-- THE TIED CARD OF 'niblicktop.TopLinksPartners'. -/
def topLinksPartnersCard : Claim7 := { stood := { row := topLinksPartnersRow, standIns := [], harness := (true, "f09039ccbcfd269f7c20ec6cc390946bf52b9630f7596b2e13e6d508ec5511c6"), looks := true }, kinds := [], alts := [], laidByText := true, laidKinds := [.data, .data, .data, .data, .sentinel, .sentinel, .pinned], laidTests := true, laidLooks := .later }
def TopLinksPartnersCardSaid : Prop := Claim7.holds Tryz.pinned (.plain (OpenSpec.ofChange topLinksPartnersSpec)) topLinksPartnersCard

/-- THE SECOND FORM's CARD OF 'niblicktop.TopLinksNotation'. -/
def topLinksNotationUptoCard : Claim7 := { stood := { row := topLinksNotationUptoRow, standIns := [], harness := (true, "f09039ccbcfd269f7c20ec6cc390946bf52b9630f7596b2e13e6d508ec5511c6"), looks := true }, kinds := [], alts := [], laidByText := true, laidKinds := [.data, .data, .data, .data, .sentinel, .sentinel, .pinned], laidTests := true, laidLooks := .later }
def TopLinksNotationUptoCardSaid : Prop := Claim7.holds Tryz.pinned (.plain (OpenSpec.upto topLinksNotationSpec)) topLinksNotationUptoCard

/-- THE SECOND FORM's CARD OF 'niblicktop.TopLinksRaised'. -/
def topLinksRaisedUptoCard : Claim7 := { stood := { row := topLinksRaisedUptoRow, standIns := [], harness := (true, "f09039ccbcfd269f7c20ec6cc390946bf52b9630f7596b2e13e6d508ec5511c6"), looks := true }, kinds := [], alts := [], laidByText := true, laidKinds := [.data, .data, .data, .data, .sentinel, .sentinel, .pinned], laidTests := true, laidLooks := .later }
def TopLinksRaisedUptoCardSaid : Prop := Claim7.holds Tryz.pinned (.plain (OpenSpec.upto topLinksRaisedSpec)) topLinksRaisedUptoCard

/-- THE SECOND FORM's CARD OF 'niblicktop.TopLinksPartners'. -/
def topLinksPartnersUptoCard : Claim7 := { stood := { row := topLinksPartnersUptoRow, standIns := [], harness := (true, "f09039ccbcfd269f7c20ec6cc390946bf52b9630f7596b2e13e6d508ec5511c6"), looks := true }, kinds := [], alts := [], laidByText := true, laidKinds := [.data, .data, .data, .data, .sentinel, .sentinel, .pinned], laidTests := true, laidLooks := .later }
def TopLinksPartnersUptoCardSaid : Prop := Claim7.holds Tryz.pinned (.plain (OpenSpec.upto topLinksPartnersSpec)) topLinksPartnersUptoCard
end Rows
end Go.Proofs.YtbakoldmfpbnaaaGreatDoor
