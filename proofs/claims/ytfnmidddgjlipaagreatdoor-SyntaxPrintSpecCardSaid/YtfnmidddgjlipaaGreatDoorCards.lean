/-
  DERIVED. GIVEN WITH THE SEED: THE CARDS: each row of YtfnmidddgjlipaaGreatDoorRows.lean that lists a variable, with what it lists TIED to the program's text (the seventh form; the later family's looks); each row that meets fmt, with fmt's text TOLD by the authors' own Lean function (tested against real Go, not proved from fmt's source: count such statements apart). THE CARD IS WHAT COUNTS. Prove the row's statement (the work); the ties are given (YtfnmidddgjlipaaGreatDoorTie.lean); close each card by the builder's one call (the guide's Derived/Test/ToyasCard.lean, 'card_holds'). Laid BY PROGRAM, IN A SANDBOX (cutbox-door.mjs). By AI agents, Wed Nov 11 2026. No macro, syntax, notation, axiom, sorry.
-/
import Derived.Test.YtfnmidddgjlipaaGreatDoorRows
import GoSem.ClaimSeven
namespace Go.Proofs.YtfnmidddgjlipaaGreatDoor
namespace Rows

/-- THE TIED CARD OF 'frankinglaw17.SyntaxSpec'. -/
def syntaxSpecCard : Claim7 := { stood := { row := syntaxSpecRow, standIns := [], harness := (true, "c4cbd6692179a2e09c7fd0ab04f7281558dc4827acab079e7c10e7f41c04d4a5"), looks := true }, kinds := [], alts := [], laidByText := true, laidKinds := [.data, .data, .data, .sentinel, .sentinel], laidTests := true, laidLooks := .later }
def SyntaxSpecCardSaid : Prop := Claim7.holds Tryz.pinned (.plain (OpenSpec.ofChange syntaxSpecSpec)) syntaxSpecCard

/-- THE TIED CARD OF 'frankinglaw17.SyntaxPrintSpec'. -/
def syntaxPrintSpecCard : Claim7 := { stood := { row := syntaxPrintSpecRow, standIns := [], harness := (true, "c4cbd6692179a2e09c7fd0ab04f7281558dc4827acab079e7c10e7f41c04d4a5"), looks := true }, kinds := [], alts := [], laidByText := true, laidKinds := [.data, .data, .data, .sentinel, .sentinel], laidTests := true, laidLooks := .later }
def SyntaxPrintSpecCardSaid : Prop := Claim7.holds Tryz.pinned (.plain (OpenSpec.ofChange syntaxPrintSpecSpec)) syntaxPrintSpecCard

/-- THE SECOND FORM's CARD OF 'frankinglaw17.SyntaxSpec'. -/
def syntaxSpecUptoCard : Claim7 := { stood := { row := syntaxSpecUptoRow, standIns := [], harness := (true, "c4cbd6692179a2e09c7fd0ab04f7281558dc4827acab079e7c10e7f41c04d4a5"), looks := true }, kinds := [], alts := [], laidByText := true, laidKinds := [.data, .data, .data, .sentinel, .sentinel], laidTests := true, laidLooks := .later }
def SyntaxSpecUptoCardSaid : Prop := Claim7.holds Tryz.pinned (.plain (OpenSpec.upto syntaxSpecSpec)) syntaxSpecUptoCard

/-- THE SECOND FORM's CARD OF 'frankinglaw17.SyntaxPrintSpec'. -/
def syntaxPrintSpecUptoCard : Claim7 := { stood := { row := syntaxPrintSpecUptoRow, standIns := [], harness := (true, "c4cbd6692179a2e09c7fd0ab04f7281558dc4827acab079e7c10e7f41c04d4a5"), looks := true }, kinds := [], alts := [], laidByText := true, laidKinds := [.data, .data, .data, .sentinel, .sentinel], laidTests := true, laidLooks := .later }
def SyntaxPrintSpecUptoCardSaid : Prop := Claim7.holds Tryz.pinned (.plain (OpenSpec.upto syntaxPrintSpecSpec)) syntaxPrintSpecUptoCard
end Rows
end Go.Proofs.YtfnmidddgjlipaaGreatDoor
