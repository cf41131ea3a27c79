/-
  DERIVED. GIVEN WITH THE SEED: THE CARDS: each row of YtidkbodmiegbkaaDoorRows.lean that lists a variable, with what it lists TIED to the program's text (the seventh form; the later family's looks); each row that meets fmt, with fmt's text TOLD by the authors' own Lean function (tested against real Go, not proved from fmt's source: count such statements apart). THE CARD IS WHAT COUNTS. Prove the row's statement (the work); the ties are given (YtidkbodmiegbkaaDoorTie.lean); close each card by the builder's one call (the guide's Derived/Test/ToyasCard.lean, 'card_holds'). Laid BY PROGRAM, IN A SANDBOX (cutbox-door.mjs). By AI agents, Wed Nov 11 2026. No macro, syntax, notation, axiom, sorry.
-/
import Derived.Test.YtidkbodmiegbkaaDoorRows
import GoSem.ClaimSeven
namespace Go.Proofs.YtidkbodmiegbkaaDoor
namespace Rows

/-- THE TIED CARD OF 'topiarylaw09.KindsOf'. -/
def kindsOfCard : Claim7 := { stood := { row := kindsOfRow, standIns := [], harness := (true, "69c9b3df9d8312016e6f9d5eda9dee28dca49d9c61917bcf62184897a02f5511"), looks := false }, kinds := [], alts := [], laidByText := true, laidKinds := [.data, .data, .data, .widerDeep, .data], laidTests := true, laidLooks := .later }
def KindsOfCardSaid : Prop := Claim7.holds Tryd.pinned (.plain (OpenSpec.ofChange kindsOfSpec)) kindsOfCard

/-- THE TIED CARD OF 'topiarylaw09.KindsFree'. -/
def kindsFreeCard : Claim7 := { stood := { row := kindsFreeRow, standIns := [], harness := (true, "69c9b3df9d8312016e6f9d5eda9dee28dca49d9c61917bcf62184897a02f5511"), looks := false }, kinds := [], alts := [], laidByText := true, laidKinds := [.data, .data, .data, .widerDeep, .data], laidTests := true, laidLooks := .later }
def KindsFreeCardSaid : Prop := Claim7.holds Tryd.pinned (.plain (OpenSpec.ofChange kindsFreeSpec)) kindsFreeCard

/-- THE SECOND FORM's CARD OF 'topiarylaw09.KindsOf'. -/
def kindsOfUptoCard : Claim7 := { stood := { row := kindsOfUptoRow, standIns := [], harness := (true, "69c9b3df9d8312016e6f9d5eda9dee28dca49d9c61917bcf62184897a02f5511"), looks := false }, kinds := [], alts := [], laidByText := true, laidKinds := [.data, .data, .data, .widerDeep, .data], laidTests := true, laidLooks := .later }
def KindsOfUptoCardSaid : Prop := Claim7.holds Tryd.pinned (.plain (OpenSpec.upto kindsOfSpec)) kindsOfUptoCard

/-- THE SECOND FORM's CARD OF 'topiarylaw09.KindsFree'. -/
def kindsFreeUptoCard : Claim7 := { stood := { row := kindsFreeUptoRow, standIns := [], harness := (true, "69c9b3df9d8312016e6f9d5eda9dee28dca49d9c61917bcf62184897a02f5511"), looks := false }, kinds := [], alts := [], laidByText := true, laidKinds := [.data, .data, .data, .widerDeep, .data], laidTests := true, laidLooks := .later }
def KindsFreeUptoCardSaid : Prop := Claim7.holds Tryd.pinned (.plain (OpenSpec.upto kindsFreeSpec)) kindsFreeUptoCard
end Rows
end Go.Proofs.YtidkbodmiegbkaaDoor
