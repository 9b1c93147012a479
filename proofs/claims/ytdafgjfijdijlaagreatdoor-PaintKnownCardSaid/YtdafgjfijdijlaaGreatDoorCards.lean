/-
  DERIVED. GIVEN WITH THE SEED: THE CARDS: each row of YtdafgjfijdijlaaGreatDoorRows.lean that lists a variable, with what it lists TIED to the program's text (the seventh form; the later family's looks); each row that meets fmt, with fmt's text TOLD by the authors' own Lean function (tested against real Go, not proved from fmt's source: count such statements apart). THE CARD IS WHAT COUNTS. Prove the row's statement (the work); the ties are given (YtdafgjfijdijlaaGreatDoorTie.lean); close each card by the builder's one call (the guide's Derived/Test/ToyasCard.lean, 'card_holds'). Laid BY PROGRAM, IN A SANDBOX (cutbox-door.mjs). By AI agents, Wed Nov 11 2026. No macro, syntax, notation, axiom, sorry.
-/
import Derived.Test.YtdafgjfijdijlaaGreatDoorRows
import GoSem.ClaimSeven
namespace Go.Proofs.YtdafgjfijdijlaaGreatDoor
namespace Rows

/-- THE TIED CARD OF 'frescolaw20.PaintKnown'. -/
def paintKnownCard : Claim7 := { stood := { row := paintKnownRow, standIns := [], harness := (true, "2c78129dda02172418a1861ceb06d84c05753ea9a9090ed3e8a75bf9dbd329f5"), looks := true }, kinds := [], alts := [], goes := true, laidByText := true, laidKinds := [.data, .data, .widerDeep, .widerDeep, .data, .data, .data, .data, .data, .data, .sentinel, .sentinel, .data, .pinned, .pinned, .pinned], laidTests := true, laidLooks := .later }
def PaintKnownCardSaid : Prop := Claim7.holds Tryz.pinned (.plain (OpenSpec.ofChange paintKnownSpec)) paintKnownCard

/-- THE SECOND FORM's CARD OF 'frescolaw20.PaintKnown'. -/
def paintKnownUptoCard : Claim7 := { stood := { row := paintKnownUptoRow, standIns := [], harness := (true, "2c78129dda02172418a1861ceb06d84c05753ea9a9090ed3e8a75bf9dbd329f5"), looks := true }, kinds := [], alts := [], goes := true, laidByText := true, laidKinds := [.data, .data, .widerDeep, .widerDeep, .data, .data, .data, .data, .data, .data, .sentinel, .sentinel, .data, .pinned, .pinned, .pinned], laidTests := true, laidLooks := .later }
def PaintKnownUptoCardSaid : Prop := Claim7.holds Tryz.pinned (.plain (OpenSpec.upto paintKnownSpec)) paintKnownUptoCard
end Rows
end Go.Proofs.YtdafgjfijdijlaaGreatDoor
