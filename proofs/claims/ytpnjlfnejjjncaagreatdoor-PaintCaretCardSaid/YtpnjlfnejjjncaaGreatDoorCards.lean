/-
  DERIVED. GIVEN WITH THE SEED: THE CARDS: each row of YtpnjlfnejjjncaaGreatDoorRows.lean that lists a variable, with what it lists TIED to the program's text (the seventh form; the later family's looks); each row that meets fmt, with fmt's text TOLD by the authors' own Lean function (tested against real Go, not proved from fmt's source: count such statements apart). THE CARD IS WHAT COUNTS. Prove the row's statement (the work); the ties are given (YtpnjlfnejjjncaaGreatDoorTie.lean); close each card by the builder's one call (the guide's Derived/Test/ToyasCard.lean, 'card_holds'). Laid BY PROGRAM, IN A SANDBOX (cutbox-door.mjs). By AI agents, Wed Nov 11 2026. No macro, syntax, notation, axiom, sorry.
-/
import Derived.Test.YtpnjlfnejjjncaaGreatDoorRows
import GoSem.ClaimSeven
namespace Go.Proofs.YtpnjlfnejjjncaaGreatDoor
namespace Rows

/-- THE TIED CARD OF 'frescolaw20.PaintCaret'. -/
def paintCaretCard : Claim7 := { stood := { row := paintCaretRow, standIns := [], harness := (true, "e2483d07c8fcf93a7fd183efa9b7dc2880995af2a1a96d0b1bd58361d9f80846"), looks := true }, kinds := [], alts := [], goes := true, laidByText := true, laidKinds := [.data, .data, .widerDeep, .widerDeep, .data, .data, .data, .data, .data, .data, .sentinel, .sentinel, .data, .pinned, .pinned, .pinned], laidTests := true, laidLooks := .later }
def PaintCaretCardSaid : Prop := Claim7.holds Tryz.pinned (.plain (OpenSpec.ofChange paintCaretSpec)) paintCaretCard

/-- THE SECOND FORM's CARD OF 'frescolaw20.PaintCaret'. -/
def paintCaretUptoCard : Claim7 := { stood := { row := paintCaretUptoRow, standIns := [], harness := (true, "e2483d07c8fcf93a7fd183efa9b7dc2880995af2a1a96d0b1bd58361d9f80846"), looks := true }, kinds := [], alts := [], goes := true, laidByText := true, laidKinds := [.data, .data, .widerDeep, .widerDeep, .data, .data, .data, .data, .data, .data, .sentinel, .sentinel, .data, .pinned, .pinned, .pinned], laidTests := true, laidLooks := .later }
def PaintCaretUptoCardSaid : Prop := Claim7.holds Tryz.pinned (.plain (OpenSpec.upto paintCaretSpec)) paintCaretUptoCard
end Rows
end Go.Proofs.YtpnjlfnejjjncaaGreatDoor
