/-
  DERIVED. GIVEN WITH THE SEED: THE CARDS: each row of YtidkbodmiegbkaaGreatDoorRows.lean that lists a variable, with what it lists TIED to the program's text (the seventh form; the later family's looks); each row that meets fmt, with fmt's text TOLD by the authors' own Lean function (tested against real Go, not proved from fmt's source: count such statements apart). THE CARD IS WHAT COUNTS. Prove the row's statement (the work); the ties are given (YtidkbodmiegbkaaGreatDoorTie.lean); close each card by the builder's one call (the guide's Derived/Test/ToyasCard.lean, 'card_holds'). Laid BY PROGRAM, IN A SANDBOX (cutbox-door.mjs). By AI agents, Wed Nov 11 2026. No macro, syntax, notation, axiom, sorry.
-/
import Derived.Test.YtidkbodmiegbkaaGreatDoorRows
import GoSem.ClaimSeven
namespace Go.Proofs.YtidkbodmiegbkaaGreatDoor
namespace Rows

/-- THE TIED CARD OF 'topiarylaw09.KindsOne'. -/
def kindsOneCard : Claim7 := { stood := { row := kindsOneRow, standIns := [], harness := (true, "69ed8a9ad437c6cded855c0e12ee8aa944a07069e326fe10d1537ccf9702d236"), looks := true }, kinds := [], alts := [], laidByText := true, laidKinds := [.data, .data, .data, .widerDeep, .data, .data], laidTests := true, laidLooks := .later }
def KindsOneCardSaid : Prop := Claim7.holds Tryz.pinned (.plain (OpenSpec.ofChange kindsOneSpec)) kindsOneCard

/-- THE TIED CARD OF 'topiarylaw09.KindsNames'. -/
def kindsNamesCard : Claim7 := { stood := { row := kindsNamesRow, standIns := [], harness := (true, "69ed8a9ad437c6cded855c0e12ee8aa944a07069e326fe10d1537ccf9702d236"), looks := true }, kinds := [], alts := [], laidByText := true, laidKinds := [.data, .data, .data, .widerDeep, .data, .data], laidTests := true, laidLooks := .later }
def KindsNamesCardSaid : Prop := Claim7.holds Tryz.pinned (.plain (OpenSpec.ofChange kindsNamesSpec)) kindsNamesCard

/-- THE TIED CARD OF 'topiarylaw09.KindsParts'. -/
def kindsPartsCard : Claim7 := { stood := { row := kindsPartsRow, standIns := [], harness := (true, "69ed8a9ad437c6cded855c0e12ee8aa944a07069e326fe10d1537ccf9702d236"), looks := true }, kinds := [], alts := [], laidByText := true, laidKinds := [.data, .data, .data, .widerDeep, .data, .data], laidTests := true, laidLooks := .later }
def KindsPartsCardSaid : Prop := Claim7.holds Tryz.pinned (.plain (OpenSpec.ofChange kindsPartsSpec)) kindsPartsCard

/-- THE TIED CARD OF 'topiarylaw09.KindsPlaces'. -/
def kindsPlacesCard : Claim7 := { stood := { row := kindsPlacesRow, standIns := [], harness := (true, "69ed8a9ad437c6cded855c0e12ee8aa944a07069e326fe10d1537ccf9702d236"), looks := true }, kinds := [], alts := [], laidByText := true, laidKinds := [.data, .data, .data, .widerDeep, .data, .data], laidTests := true, laidLooks := .later }
def KindsPlacesCardSaid : Prop := Claim7.holds Tryz.pinned (.plain (OpenSpec.ofChange kindsPlacesSpec)) kindsPlacesCard

/-- THE SECOND FORM's CARD OF 'topiarylaw09.KindsOne'. -/
def kindsOneUptoCard : Claim7 := { stood := { row := kindsOneUptoRow, standIns := [], harness := (true, "69ed8a9ad437c6cded855c0e12ee8aa944a07069e326fe10d1537ccf9702d236"), looks := true }, kinds := [], alts := [], laidByText := true, laidKinds := [.data, .data, .data, .widerDeep, .data, .data], laidTests := true, laidLooks := .later }
def KindsOneUptoCardSaid : Prop := Claim7.holds Tryz.pinned (.plain (OpenSpec.upto kindsOneSpec)) kindsOneUptoCard

/-- THE SECOND FORM's CARD OF 'topiarylaw09.KindsNames'. -/
def kindsNamesUptoCard : Claim7 := { stood := { row := kindsNamesUptoRow, standIns := [], harness := (true, "69ed8a9ad437c6cded855c0e12ee8aa944a07069e326fe10d1537ccf9702d236"), looks := true }, kinds := [], alts := [], laidByText := true, laidKinds := [.data, .data, .data, .widerDeep, .data, .data], laidTests := true, laidLooks := .later }
def KindsNamesUptoCardSaid : Prop := Claim7.holds Tryz.pinned (.plain (OpenSpec.upto kindsNamesSpec)) kindsNamesUptoCard

/-- THE SECOND FORM's CARD OF 'topiarylaw09.KindsParts'. -/
def kindsPartsUptoCard : Claim7 := { stood := { row := kindsPartsUptoRow, standIns := [], harness := (true, "69ed8a9ad437c6cded855c0e12ee8aa944a07069e326fe10d1537ccf9702d236"), looks := true }, kinds := [], alts := [], laidByText := true, laidKinds := [.data, .data, .data, .widerDeep, .data, .data], laidTests := true, laidLooks := .later }
def KindsPartsUptoCardSaid : Prop := Claim7.holds Tryz.pinned (.plain (OpenSpec.upto kindsPartsSpec)) kindsPartsUptoCard

/-- THE SECOND FORM's CARD OF 'topiarylaw09.KindsPlaces'. -/
def kindsPlacesUptoCard : Claim7 := { stood := { row := kindsPlacesUptoRow, standIns := [], harness := (true, "69ed8a9ad437c6cded855c0e12ee8aa944a07069e326fe10d1537ccf9702d236"), looks := true }, kinds := [], alts := [], laidByText := true, laidKinds := [.data, .data, .data, .widerDeep, .data, .data], laidTests := true, laidLooks := .later }
def KindsPlacesUptoCardSaid : Prop := Claim7.holds Tryz.pinned (.plain (OpenSpec.upto kindsPlacesSpec)) kindsPlacesUptoCard
end Rows
end Go.Proofs.YtidkbodmiegbkaaGreatDoor
