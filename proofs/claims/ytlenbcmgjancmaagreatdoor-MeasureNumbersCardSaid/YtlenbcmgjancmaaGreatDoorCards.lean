/-
  DERIVED. GIVEN WITH THE SEED: THE CARDS: each row of YtlenbcmgjancmaaGreatDoorRows.lean that lists a variable, with what it lists TIED to the program's text (the seventh form; the later family's looks); each row that meets fmt, with fmt's text TOLD by the authors' own Lean function (tested against real Go, not proved from fmt's source: count such statements apart). THE CARD IS WHAT COUNTS. Prove the row's statement (the work); the ties are given (YtlenbcmgjancmaaGreatDoorTie.lean); close each card by the builder's one call (the guide's Derived/Test/ToyasCard.lean, 'card_holds'). Laid BY PROGRAM, IN A SANDBOX (cutbox-door.mjs). By AI agents, Wed Nov 11 2026. No macro, syntax, notation, axiom, sorry.
-/
import Derived.Test.YtlenbcmgjancmaaGreatDoorRows
import GoSem.ClaimSeven
namespace Go.Proofs.YtlenbcmgjancmaaGreatDoor
namespace Rows

/-- THE TIED CARD OF 'frescolaw15.MeasureBounds'. -/
def measureBoundsCard : Claim7 := { stood := { row := measureBoundsRow, standIns := [], harness := (true, "cb0440429f8902b7f006218743c7167598d43f358285532b4f7d91aa2554435b"), looks := false }, kinds := [], alts := [], laidByText := true, laidKinds := [.data, .pinned], laidTests := true, laidLooks := .later }
def MeasureBoundsCardSaid : Prop := Claim7.holds Tryz.pinned (.plain (OpenSpec.ofChange measureBoundsSpec)) measureBoundsCard

/-- THE TIED CARD OF 'frescolaw15.MeasureText'. -/
def measureTextCard : Claim7 := { stood := { row := measureTextRow, standIns := [], harness := (true, "cb0440429f8902b7f006218743c7167598d43f358285532b4f7d91aa2554435b"), looks := false }, kinds := [], alts := [], laidByText := true, laidKinds := [.data, .pinned], laidTests := true, laidLooks := .later }
def MeasureTextCardSaid : Prop := Claim7.holds Tryz.pinned (.plain (OpenSpec.ofChange measureTextSpec)) measureTextCard

/-- THE TIED CARD OF 'frescolaw15.MeasureKnown'. -/
def measureKnownCard : Claim7 := { stood := { row := measureKnownRow, standIns := [], harness := (true, "cb0440429f8902b7f006218743c7167598d43f358285532b4f7d91aa2554435b"), looks := false }, kinds := [], alts := [], laidByText := true, laidKinds := [.data, .pinned], laidTests := true, laidLooks := .later }
def MeasureKnownCardSaid : Prop := Claim7.holds Tryz.pinned (.plain (OpenSpec.ofChange measureKnownSpec)) measureKnownCard

/-- THE TIED CARD OF 'frescolaw15.MeasureNumbers'. -/
def measureNumbersCard : Claim7 := { stood := { row := measureNumbersRow, standIns := [], harness := (true, "cb0440429f8902b7f006218743c7167598d43f358285532b4f7d91aa2554435b"), looks := false }, kinds := [], alts := [], laidByText := true, laidKinds := [.data, .pinned], laidTests := true, laidLooks := .later }
def MeasureNumbersCardSaid : Prop := Claim7.holds Tryz.pinned (.plain (OpenSpec.ofChange measureNumbersSpec)) measureNumbersCard

/-- THE SECOND FORM's CARD OF 'frescolaw15.MeasureBounds'. -/
def measureBoundsUptoCard : Claim7 := { stood := { row := measureBoundsUptoRow, standIns := [], harness := (true, "cb0440429f8902b7f006218743c7167598d43f358285532b4f7d91aa2554435b"), looks := false }, kinds := [], alts := [], laidByText := true, laidKinds := [.data, .pinned], laidTests := true, laidLooks := .later }
def MeasureBoundsUptoCardSaid : Prop := Claim7.holds Tryz.pinned (.plain (OpenSpec.upto measureBoundsSpec)) measureBoundsUptoCard

/-- THE SECOND FORM's CARD OF 'frescolaw15.MeasureText'. -/
def measureTextUptoCard : Claim7 := { stood := { row := measureTextUptoRow, standIns := [], harness := (true, "cb0440429f8902b7f006218743c7167598d43f358285532b4f7d91aa2554435b"), looks := false }, kinds := [], alts := [], laidByText := true, laidKinds := [.data, .pinned], laidTests := true, laidLooks := .later }
def MeasureTextUptoCardSaid : Prop := Claim7.holds Tryz.pinned (.plain (OpenSpec.upto measureTextSpec)) measureTextUptoCard

/-- THE SECOND FORM's CARD OF 'frescolaw15.MeasureKnown'. -/
def measureKnownUptoCard : Claim7 := { stood := { row := measureKnownUptoRow, standIns := [], harness := (true, "cb0440429f8902b7f006218743c7167598d43f358285532b4f7d91aa2554435b"), looks := false }, kinds := [], alts := [], laidByText := true, laidKinds := [.data, .pinned], laidTests := true, laidLooks := .later }
def MeasureKnownUptoCardSaid : Prop := Claim7.holds Tryz.pinned (.plain (OpenSpec.upto measureKnownSpec)) measureKnownUptoCard

/-- THE SECOND FORM's CARD OF 'frescolaw15.MeasureNumbers'. -/
def measureNumbersUptoCard : Claim7 := { stood := { row := measureNumbersUptoRow, standIns := [], harness := (true, "cb0440429f8902b7f006218743c7167598d43f358285532b4f7d91aa2554435b"), looks := false }, kinds := [], alts := [], laidByText := true, laidKinds := [.data, .pinned], laidTests := true, laidLooks := .later }
def MeasureNumbersUptoCardSaid : Prop := Claim7.holds Tryz.pinned (.plain (OpenSpec.upto measureNumbersSpec)) measureNumbersUptoCard
end Rows
end Go.Proofs.YtlenbcmgjancmaaGreatDoor
