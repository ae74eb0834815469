/-
  DERIVED. GIVEN WITH THE SEED: THE CARDS: each row of YtfnmidddgjlipaaDoorRows.lean that lists a variable, with what it lists TIED to the program's text (the seventh form; the later family's looks); each row that meets fmt, with fmt's text TOLD by the authors' own Lean function (tested against real Go, not proved from fmt's source: count such statements apart). THE CARD IS WHAT COUNTS. Prove the row's statement (the work); the ties are given (YtfnmidddgjlipaaDoorTie.lean); close each card by the builder's one call (the guide's Derived/Test/ToyasCard.lean, 'card_holds'). Laid BY PROGRAM, IN A SANDBOX (cutbox-door.mjs). By AI agents, Wed Nov 11 2026. No macro, syntax, notation, axiom, sorry.
-/
import Derived.Test.YtfnmidddgjlipaaDoorRows
import GoSem.ClaimSeven
namespace Go.Proofs.YtfnmidddgjlipaaDoor
namespace Rows

/-- THE TIED CARD OF 'frankinglaw17.SyntaxBack'. -/
def syntaxBackCard : Claim7 := { stood := { row := syntaxBackRow, standIns := [], harness := (true, "da7a53e2027b82d315f4c166b4b434db3249eefb495583a5a09f6f3e4ee5379c"), looks := true }, kinds := [], alts := [], laidByText := true, laidKinds := [.data, .data, .data, .sentinel, .sentinel], laidTests := true, laidLooks := .later }
def SyntaxBackCardSaid : Prop := Claim7.holds Tryd.pinned (.plain (OpenSpec.ofChange syntaxBackSpec)) syntaxBackCard

/-- THE TIED CARD OF 'frankinglaw17.SyntaxSpaces'. -/
def syntaxSpacesCard : Claim7 := { stood := { row := syntaxSpacesRow, standIns := [], harness := (true, "da7a53e2027b82d315f4c166b4b434db3249eefb495583a5a09f6f3e4ee5379c"), looks := true }, kinds := [], alts := [], laidByText := true, laidKinds := [.data, .data, .data, .sentinel, .sentinel], laidTests := true, laidLooks := .later }
def SyntaxSpacesCardSaid : Prop := Claim7.holds Tryd.pinned (.plain (OpenSpec.ofChange syntaxSpacesSpec)) syntaxSpacesCard

/-- THE TIED CARD OF 'frankinglaw17.SyntaxJoined'. -/
def syntaxJoinedCard : Claim7 := { stood := { row := syntaxJoinedRow, standIns := [], harness := (true, "da7a53e2027b82d315f4c166b4b434db3249eefb495583a5a09f6f3e4ee5379c"), looks := true }, kinds := [], alts := [], laidByText := true, laidKinds := [.data, .data, .data, .sentinel, .sentinel], laidTests := true, laidLooks := .later }
def SyntaxJoinedCardSaid : Prop := Claim7.holds Tryd.pinned (.plain (OpenSpec.ofChange syntaxJoinedSpec)) syntaxJoinedCard

/-- THE TIED CARD OF 'frankinglaw17.SyntaxChange'. -/
def syntaxChangeCard : Claim7 := { stood := { row := syntaxChangeRow, standIns := [], harness := (true, "da7a53e2027b82d315f4c166b4b434db3249eefb495583a5a09f6f3e4ee5379c"), looks := true }, kinds := [], alts := [], laidByText := true, laidKinds := [.data, .data, .data, .sentinel, .sentinel], laidTests := true, laidLooks := .later }
def SyntaxChangeCardSaid : Prop := Claim7.holds Tryd.pinned (.plain (OpenSpec.ofChange syntaxChangeSpec)) syntaxChangeCard

/-- THE TIED CARD OF 'frankinglaw17.SyntaxCut'. -/
def syntaxCutCard : Claim7 := { stood := { row := syntaxCutRow, standIns := [], harness := (true, "da7a53e2027b82d315f4c166b4b434db3249eefb495583a5a09f6f3e4ee5379c"), looks := true }, kinds := [], alts := [], laidByText := true, laidKinds := [.data, .data, .data, .sentinel, .sentinel], laidTests := true, laidLooks := .later }
def SyntaxCutCardSaid : Prop := Claim7.holds Tryd.pinned (.plain (OpenSpec.ofChange syntaxCutSpec)) syntaxCutCard

/-- THE SECOND FORM's CARD OF 'frankinglaw17.SyntaxBack'. -/
def syntaxBackUptoCard : Claim7 := { stood := { row := syntaxBackUptoRow, standIns := [], harness := (true, "da7a53e2027b82d315f4c166b4b434db3249eefb495583a5a09f6f3e4ee5379c"), looks := true }, kinds := [], alts := [], laidByText := true, laidKinds := [.data, .data, .data, .sentinel, .sentinel], laidTests := true, laidLooks := .later }
def SyntaxBackUptoCardSaid : Prop := Claim7.holds Tryd.pinned (.plain (OpenSpec.upto syntaxBackSpec)) syntaxBackUptoCard

/-- THE SECOND FORM's CARD OF 'frankinglaw17.SyntaxSpaces'. -/
def syntaxSpacesUptoCard : Claim7 := { stood := { row := syntaxSpacesUptoRow, standIns := [], harness := (true, "da7a53e2027b82d315f4c166b4b434db3249eefb495583a5a09f6f3e4ee5379c"), looks := true }, kinds := [], alts := [], laidByText := true, laidKinds := [.data, .data, .data, .sentinel, .sentinel], laidTests := true, laidLooks := .later }
def SyntaxSpacesUptoCardSaid : Prop := Claim7.holds Tryd.pinned (.plain (OpenSpec.upto syntaxSpacesSpec)) syntaxSpacesUptoCard

/-- THE SECOND FORM's CARD OF 'frankinglaw17.SyntaxJoined'. -/
def syntaxJoinedUptoCard : Claim7 := { stood := { row := syntaxJoinedUptoRow, standIns := [], harness := (true, "da7a53e2027b82d315f4c166b4b434db3249eefb495583a5a09f6f3e4ee5379c"), looks := true }, kinds := [], alts := [], laidByText := true, laidKinds := [.data, .data, .data, .sentinel, .sentinel], laidTests := true, laidLooks := .later }
def SyntaxJoinedUptoCardSaid : Prop := Claim7.holds Tryd.pinned (.plain (OpenSpec.upto syntaxJoinedSpec)) syntaxJoinedUptoCard

/-- THE SECOND FORM's CARD OF 'frankinglaw17.SyntaxChange'. -/
def syntaxChangeUptoCard : Claim7 := { stood := { row := syntaxChangeUptoRow, standIns := [], harness := (true, "da7a53e2027b82d315f4c166b4b434db3249eefb495583a5a09f6f3e4ee5379c"), looks := true }, kinds := [], alts := [], laidByText := true, laidKinds := [.data, .data, .data, .sentinel, .sentinel], laidTests := true, laidLooks := .later }
def SyntaxChangeUptoCardSaid : Prop := Claim7.holds Tryd.pinned (.plain (OpenSpec.upto syntaxChangeSpec)) syntaxChangeUptoCard

/-- THE SECOND FORM's CARD OF 'frankinglaw17.SyntaxCut'. -/
def syntaxCutUptoCard : Claim7 := { stood := { row := syntaxCutUptoRow, standIns := [], harness := (true, "da7a53e2027b82d315f4c166b4b434db3249eefb495583a5a09f6f3e4ee5379c"), looks := true }, kinds := [], alts := [], laidByText := true, laidKinds := [.data, .data, .data, .sentinel, .sentinel], laidTests := true, laidLooks := .later }
def SyntaxCutUptoCardSaid : Prop := Claim7.holds Tryd.pinned (.plain (OpenSpec.upto syntaxCutSpec)) syntaxCutUptoCard
end Rows
end Go.Proofs.YtfnmidddgjlipaaDoor
