/-
  DERIVED. GIVEN WITH THE SEED: THE CARDS: each row of YtdchgemnlcdomaaGreatDoorRows.lean that lists a variable, with what it lists TIED to the program's text (the seventh form; the later family's looks); each row that meets fmt, with fmt's text TOLD by the authors' own Lean function (tested against real Go, not proved from fmt's source: count such statements apart). THE CARD IS WHAT COUNTS. Prove the row's statement (the work); the ties are given (YtdchgemnlcdomaaGreatDoorTie.lean); close each card by the builder's one call (the guide's Derived/Test/ToyasCard.lean, 'card_holds'). Laid BY PROGRAM, IN A SANDBOX (cutbox-door.mjs). By AI agents, Wed Nov 11 2026. No macro, syntax, notation, axiom, sorry.
-/
import Derived.Test.YtdchgemnlcdomaaGreatDoorRows
import GoSem.ClaimSeven
namespace Go.Proofs.YtdchgemnlcdomaaGreatDoor
namespace Rows

/-- THE TIED CARD OF 'frescolaw15.MeasureKnown'. -/
def measureKnownCard : Claim7 := { stood := { row := measureKnownRow, standIns := [], harness := (true, "d64fb6e73c799decaf718589254d5b980c547d646c7c552ae770024786e78b4f"), looks := false }, kinds := [], alts := [], laidByText := true, laidKinds := [.data, .pinned], laidTests := true, laidLooks := .later }
def MeasureKnownCardSaid : Prop := Claim7.holds Tryz.pinned (.plain (OpenSpec.ofChange measureKnownSpec)) measureKnownCard

/-- THE SECOND FORM's CARD OF 'frescolaw15.MeasureKnown'. -/
def measureKnownUptoCard : Claim7 := { stood := { row := measureKnownUptoRow, standIns := [], harness := (true, "d64fb6e73c799decaf718589254d5b980c547d646c7c552ae770024786e78b4f"), looks := false }, kinds := [], alts := [], laidByText := true, laidKinds := [.data, .pinned], laidTests := true, laidLooks := .later }
def MeasureKnownUptoCardSaid : Prop := Claim7.holds Tryz.pinned (.plain (OpenSpec.upto measureKnownSpec)) measureKnownUptoCard
end Rows
end Go.Proofs.YtdchgemnlcdomaaGreatDoor
