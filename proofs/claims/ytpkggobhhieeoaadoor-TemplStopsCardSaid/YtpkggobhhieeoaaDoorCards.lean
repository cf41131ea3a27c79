/-
  DERIVED. GIVEN WITH THE SEED: THE CARDS: each row of YtpkggobhhieeoaaDoorRows.lean that lists a variable, with what it lists TIED to the program's text (the seventh form; the later family's looks); each row that meets fmt, with fmt's text TOLD by the authors' own Lean function (tested against real Go, not proved from fmt's source: count such statements apart). THE CARD IS WHAT COUNTS. Prove the row's statement (the work); the ties are given (YtpkggobhhieeoaaDoorTie.lean); close each card by the builder's one call (the guide's Derived/Test/ToyasCard.lean, 'card_holds'). Laid BY PROGRAM, IN A SANDBOX (cutbox-door.mjs). By AI agents, Wed Nov 11 2026. No macro, syntax, notation, axiom, sorry.
-/
import Derived.Test.YtpkggobhhieeoaaDoorRows
import GoSem.ClaimSeven
namespace Go.Proofs.YtpkggobhhieeoaaDoor
namespace Rows

/-- THE TIED CARD OF 'topiarylaw20.TemplReads'. -/
def templReadsCard : Claim7 := { stood := { row := templReadsRow, standIns := [], harness := (true, "1b976987ccbc1a1077a74c8a187ef37d203c444189e4e2dcb67f7c03934c1316"), looks := true }, kinds := [], alts := [], laidByText := true, laidKinds := [.widerDeep, .data], laidTests := true, laidLooks := .later }
def TemplReadsCardSaid : Prop := Claim7.holds Tryd.pinned (.plain (OpenSpec.ofChange templReadsSpec)) templReadsCard

/-- THE TIED CARD OF 'topiarylaw20.TemplBack'. -/
def templBackCard : Claim7 := { stood := { row := templBackRow, standIns := [], harness := (true, "1b976987ccbc1a1077a74c8a187ef37d203c444189e4e2dcb67f7c03934c1316"), looks := true }, kinds := [], alts := [], laidByText := true, laidKinds := [.data, .widerDeep, .data, .pinned], laidTests := true, laidLooks := .later }
def TemplBackCardSaid : Prop := Claim7.holds Tryd.pinned (.plain (OpenSpec.ofChange templBackSpec)) templBackCard

/-- THE TIED CARD OF 'topiarylaw20.TemplJoins'. -/
def templJoinsCard : Claim7 := { stood := { row := templJoinsRow, standIns := [], harness := (true, "1b976987ccbc1a1077a74c8a187ef37d203c444189e4e2dcb67f7c03934c1316"), looks := true }, kinds := [], alts := [], laidByText := true, laidKinds := [.data, .widerDeep, .data, .pinned], laidTests := true, laidLooks := .later }
def TemplJoinsCardSaid : Prop := Claim7.holds Tryd.pinned (.plain (OpenSpec.ofChange templJoinsSpec)) templJoinsCard

/-- THE TIED CARD OF 'topiarylaw20.TemplStops'. -/
def templStopsCard : Claim7 := { stood := { row := templStopsRow, standIns := [], harness := (true, "1b976987ccbc1a1077a74c8a187ef37d203c444189e4e2dcb67f7c03934c1316"), looks := true }, kinds := [], alts := [], laidByText := true, laidKinds := [.data, .widerDeep, .data, .pinned], laidTests := true, laidLooks := .later }
def TemplStopsCardSaid : Prop := Claim7.holds Tryd.pinned (.plain (OpenSpec.ofChange templStopsSpec)) templStopsCard

/-- THE SECOND FORM's CARD OF 'topiarylaw20.TemplReads'. -/
def templReadsUptoCard : Claim7 := { stood := { row := templReadsUptoRow, standIns := [], harness := (true, "1b976987ccbc1a1077a74c8a187ef37d203c444189e4e2dcb67f7c03934c1316"), looks := true }, kinds := [], alts := [], laidByText := true, laidKinds := [.widerDeep, .data], laidTests := true, laidLooks := .later }
def TemplReadsUptoCardSaid : Prop := Claim7.holds Tryd.pinned (.plain (OpenSpec.upto templReadsSpec)) templReadsUptoCard

/-- THE SECOND FORM's CARD OF 'topiarylaw20.TemplBack'. -/
def templBackUptoCard : Claim7 := { stood := { row := templBackUptoRow, standIns := [], harness := (true, "1b976987ccbc1a1077a74c8a187ef37d203c444189e4e2dcb67f7c03934c1316"), looks := true }, kinds := [], alts := [], laidByText := true, laidKinds := [.data, .widerDeep, .data, .pinned], laidTests := true, laidLooks := .later }
def TemplBackUptoCardSaid : Prop := Claim7.holds Tryd.pinned (.plain (OpenSpec.upto templBackSpec)) templBackUptoCard

/-- THE SECOND FORM's CARD OF 'topiarylaw20.TemplJoins'. -/
def templJoinsUptoCard : Claim7 := { stood := { row := templJoinsUptoRow, standIns := [], harness := (true, "1b976987ccbc1a1077a74c8a187ef37d203c444189e4e2dcb67f7c03934c1316"), looks := true }, kinds := [], alts := [], laidByText := true, laidKinds := [.data, .widerDeep, .data, .pinned], laidTests := true, laidLooks := .later }
def TemplJoinsUptoCardSaid : Prop := Claim7.holds Tryd.pinned (.plain (OpenSpec.upto templJoinsSpec)) templJoinsUptoCard

/-- THE SECOND FORM's CARD OF 'topiarylaw20.TemplStops'. -/
def templStopsUptoCard : Claim7 := { stood := { row := templStopsUptoRow, standIns := [], harness := (true, "1b976987ccbc1a1077a74c8a187ef37d203c444189e4e2dcb67f7c03934c1316"), looks := true }, kinds := [], alts := [], laidByText := true, laidKinds := [.data, .widerDeep, .data, .pinned], laidTests := true, laidLooks := .later }
def TemplStopsUptoCardSaid : Prop := Claim7.holds Tryd.pinned (.plain (OpenSpec.upto templStopsSpec)) templStopsUptoCard
end Rows
end Go.Proofs.YtpkggobhhieeoaaDoor
