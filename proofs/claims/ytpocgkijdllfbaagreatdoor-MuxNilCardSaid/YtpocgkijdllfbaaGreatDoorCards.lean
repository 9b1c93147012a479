/-
  DERIVED. GIVEN WITH THE SEED: THE CARDS: each row of YtpocgkijdllfbaaGreatDoorRows.lean that lists a variable, with what it lists TIED to the program's text (the seventh form; the later family's looks); each row that meets fmt, with fmt's text TOLD by the authors' own Lean function (tested against real Go, not proved from fmt's source: count such statements apart). THE CARD IS WHAT COUNTS. Prove the row's statement (the work); the ties are given (YtpocgkijdllfbaaGreatDoorTie.lean); close each card by the builder's one call (the guide's Derived/Test/ToyasCard.lean, 'card_holds'). Laid BY PROGRAM, IN A SANDBOX (cutbox-door.mjs). By AI agents, Wed Nov 11 2026. No macro, syntax, notation, axiom, sorry.
-/
import Derived.Test.YtpocgkijdllfbaaGreatDoorRows
import GoSem.ClaimSeven
namespace Go.Proofs.YtpocgkijdllfbaaGreatDoor
namespace Rows

/-- THE TIED CARD OF 'frescolaw28.MuxNames'. -/
def muxNamesCard : Claim7 := { stood := { row := muxNamesRow, standIns := [], harness := (true, "46464e193f7c24200f45bec0e619fc039b5db18b2f93cba091867fb663893f93"), looks := true }, kinds := [], alts := [], laidByText := true, laidKinds := [.data, .data, .data, .data, .data], laidTests := true, laidLooks := .later }
def MuxNamesCardSaid : Prop := Claim7.holds Tryz.pinned (.plain (OpenSpec.ofChange muxNamesSpec)) muxNamesCard

/-- THE TIED CARD OF 'frescolaw28.MuxNil'. -/
def muxNilCard : Claim7 := { stood := { row := muxNilRow, standIns := [], harness := (true, "46464e193f7c24200f45bec0e619fc039b5db18b2f93cba091867fb663893f93"), looks := true }, kinds := [], alts := [], laidByText := true, laidKinds := [.data, .data, .data, .data, .data], laidTests := true, laidLooks := .later }
def MuxNilCardSaid : Prop := Claim7.holds Tryz.pinned (.plain (OpenSpec.ofChange muxNilSpec)) muxNilCard

/-- THE SECOND FORM's CARD OF 'frescolaw28.MuxNames'. -/
def muxNamesUptoCard : Claim7 := { stood := { row := muxNamesUptoRow, standIns := [], harness := (true, "46464e193f7c24200f45bec0e619fc039b5db18b2f93cba091867fb663893f93"), looks := true }, kinds := [], alts := [], laidByText := true, laidKinds := [.data, .data, .data, .data, .data], laidTests := true, laidLooks := .later }
def MuxNamesUptoCardSaid : Prop := Claim7.holds Tryz.pinned (.plain (OpenSpec.upto muxNamesSpec)) muxNamesUptoCard

/-- THE SECOND FORM's CARD OF 'frescolaw28.MuxNil'. -/
def muxNilUptoCard : Claim7 := { stood := { row := muxNilUptoRow, standIns := [], harness := (true, "46464e193f7c24200f45bec0e619fc039b5db18b2f93cba091867fb663893f93"), looks := true }, kinds := [], alts := [], laidByText := true, laidKinds := [.data, .data, .data, .data, .data], laidTests := true, laidLooks := .later }
def MuxNilUptoCardSaid : Prop := Claim7.holds Tryz.pinned (.plain (OpenSpec.upto muxNilSpec)) muxNilUptoCard
end Rows
end Go.Proofs.YtpocgkijdllfbaaGreatDoor
