/-
  DERIVED. GIVEN WITH THE SEED: THE CARDS: each row of YtnaafefcijgpkaaGreatDoorRows.lean that lists a variable, with what it lists TIED to the program's text (the seventh form; the later family's looks); each row that meets fmt, with fmt's text TOLD by the authors' own Lean function (tested against real Go, not proved from fmt's source: count such statements apart). THE CARD IS WHAT COUNTS. Prove the row's statement (the work); the ties are given (YtnaafefcijgpkaaGreatDoorTie.lean); close each card by the builder's one call (the guide's Derived/Test/ToyasCard.lean, 'card_holds'). Laid BY PROGRAM, IN A SANDBOX (cutbox-door.mjs). By AI agents, Wed Nov 11 2026. No macro, syntax, notation, axiom, sorry.
-/
import Derived.Test.YtnaafefcijgpkaaGreatDoorRows
import GoSem.ClaimSeven
namespace Go.Proofs.YtnaafefcijgpkaaGreatDoor
namespace Rows

/-- THE TIED CARD OF 'niblicktop.TopLinksScored'. -/
def topLinksScoredCard : Claim7 := { stood := { row := topLinksScoredRow, standIns := [], harness := (true, "7dcd56aba0beea6ce28e85b132253822b062613628cda1bf9ba47ea14fc2b573"), looks := false }, kinds := [], alts := [], laidByText := true, laidKinds := [.data, .data, .data], laidTests := true, laidLooks := .later }
def TopLinksScoredCardSaid : Prop := Claim7.holds Tryz.pinned (.plain (OpenSpec.ofChange topLinksScoredSpec)) topLinksScoredCard

/-- THE TIED CARD OF 'niblicktop.TopLinksFollowers'. -/
def topLinksFollowersCard : Claim7 := { stood := { row := topLinksFollowersRow, standIns := [], harness := (true, "7dcd56aba0beea6ce28e85b132253822b062613628cda1bf9ba47ea14fc2b573"), looks := false }, kinds := [], alts := [], laidByText := true, laidKinds := [.data, .data, .data], laidTests := true, laidLooks := .later }
def TopLinksFollowersCardSaid : Prop := Claim7.holds Tryz.pinned (.plain (OpenSpec.ofChange topLinksFollowersSpec)) topLinksFollowersCard

/-- THE SECOND FORM's CARD OF 'niblicktop.TopLinksScored'. -/
def topLinksScoredUptoCard : Claim7 := { stood := { row := topLinksScoredUptoRow, standIns := [], harness := (true, "7dcd56aba0beea6ce28e85b132253822b062613628cda1bf9ba47ea14fc2b573"), looks := false }, kinds := [], alts := [], laidByText := true, laidKinds := [.data, .data, .data], laidTests := true, laidLooks := .later }
def TopLinksScoredUptoCardSaid : Prop := Claim7.holds Tryz.pinned (.plain (OpenSpec.upto topLinksScoredSpec)) topLinksScoredUptoCard

/-- THE SECOND FORM's CARD OF 'niblicktop.TopLinksFollowers'. -/
def topLinksFollowersUptoCard : Claim7 := { stood := { row := topLinksFollowersUptoRow, standIns := [], harness := (true, "7dcd56aba0beea6ce28e85b132253822b062613628cda1bf9ba47ea14fc2b573"), looks := false }, kinds := [], alts := [], laidByText := true, laidKinds := [.data, .data, .data], laidTests := true, laidLooks := .later }
def TopLinksFollowersUptoCardSaid : Prop := Claim7.holds Tryz.pinned (.plain (OpenSpec.upto topLinksFollowersSpec)) topLinksFollowersUptoCard
end Rows
end Go.Proofs.YtnaafefcijgpkaaGreatDoor
