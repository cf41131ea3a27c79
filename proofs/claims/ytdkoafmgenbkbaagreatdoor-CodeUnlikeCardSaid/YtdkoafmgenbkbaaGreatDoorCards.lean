/-
  DERIVED. GIVEN WITH THE SEED: THE CARDS: each row of YtdkoafmgenbkbaaGreatDoorRows.lean that lists a variable, with what it lists TIED to the program's text (the seventh form; the later family's looks); each row that meets fmt, with fmt's text TOLD by the authors' own Lean function (tested against real Go, not proved from fmt's source: count such statements apart). THE CARD IS WHAT COUNTS. Prove the row's statement (the work); the ties are given (YtdkoafmgenbkbaaGreatDoorTie.lean); close each card by the builder's one call (the guide's Derived/Test/ToyasCard.lean, 'card_holds'). Laid BY PROGRAM, IN A SANDBOX (cutbox-door.mjs). By AI agents, Wed Nov 11 2026. No macro, syntax, notation, axiom, sorry.
-/
import Derived.Test.YtdkoafmgenbkbaaGreatDoorRows
import GoSem.ClaimSeven
namespace Go.Proofs.YtdkoafmgenbkbaaGreatDoor
namespace Rows

/-- THE TIED CARD OF 'topiarylaw11.CodeBack'. -/
def codeBackCard : Claim7 := { stood := { row := codeBackRow, standIns := [], harness := (true, "12c297444445eec551cf2520bbe687d940465467fce70ac978a0ea497c9a58df"), looks := true }, kinds := [], alts := [], laidByText := true, laidKinds := [.data, .data, .data, .sentinel, .sentinel, .widerDeep, .data, .widerDeep], laidTests := true, laidLooks := .later }
def CodeBackCardSaid : Prop := Claim7.holds Tryz.pinned (.plain (OpenSpec.ofChange codeBackSpec)) codeBackCard

/-- THE TIED CARD OF 'topiarylaw11.CodeSteps'. -/
def codeStepsCard : Claim7 := { stood := { row := codeStepsRow, standIns := [], harness := (true, "12c297444445eec551cf2520bbe687d940465467fce70ac978a0ea497c9a58df"), looks := true }, kinds := [], alts := [], laidByText := true, laidKinds := [.data, .data, .data, .sentinel, .sentinel, .widerDeep, .data, .widerDeep], laidTests := true, laidLooks := .later }
def CodeStepsCardSaid : Prop := Claim7.holds Tryz.pinned (.plain (OpenSpec.ofChange codeStepsSpec)) codeStepsCard

/-- THE TIED CARD OF 'topiarylaw11.CodeNames'. -/
def codeNamesCard : Claim7 := { stood := { row := codeNamesRow, standIns := [], harness := (true, "12c297444445eec551cf2520bbe687d940465467fce70ac978a0ea497c9a58df"), looks := true }, kinds := [], alts := [], laidByText := true, laidKinds := [.data, .data, .data, .sentinel, .sentinel, .widerDeep, .data, .widerDeep], laidTests := true, laidLooks := .later }
def CodeNamesCardSaid : Prop := Claim7.holds Tryz.pinned (.plain (OpenSpec.ofChange codeNamesSpec)) codeNamesCard

/-- THE TIED CARD OF 'topiarylaw11.CodeUnlike'. -/
def codeUnlikeCard : Claim7 := { stood := { row := codeUnlikeRow, standIns := [], harness := (true, "12c297444445eec551cf2520bbe687d940465467fce70ac978a0ea497c9a58df"), looks := true }, kinds := [], alts := [], laidByText := true, laidKinds := [.data, .data, .data, .sentinel, .sentinel, .widerDeep, .data, .widerDeep], laidTests := true, laidLooks := .later }
def CodeUnlikeCardSaid : Prop := Claim7.holds Tryz.pinned (.plain (OpenSpec.ofChange codeUnlikeSpec)) codeUnlikeCard

/-- THE SECOND FORM's CARD OF 'topiarylaw11.CodeBack'. -/
def codeBackUptoCard : Claim7 := { stood := { row := codeBackUptoRow, standIns := [], harness := (true, "12c297444445eec551cf2520bbe687d940465467fce70ac978a0ea497c9a58df"), looks := true }, kinds := [], alts := [], laidByText := true, laidKinds := [.data, .data, .data, .sentinel, .sentinel, .widerDeep, .data, .widerDeep], laidTests := true, laidLooks := .later }
def CodeBackUptoCardSaid : Prop := Claim7.holds Tryz.pinned (.plain (OpenSpec.upto codeBackSpec)) codeBackUptoCard

/-- THE SECOND FORM's CARD OF 'topiarylaw11.CodeSteps'. -/
def codeStepsUptoCard : Claim7 := { stood := { row := codeStepsUptoRow, standIns := [], harness := (true, "12c297444445eec551cf2520bbe687d940465467fce70ac978a0ea497c9a58df"), looks := true }, kinds := [], alts := [], laidByText := true, laidKinds := [.data, .data, .data, .sentinel, .sentinel, .widerDeep, .data, .widerDeep], laidTests := true, laidLooks := .later }
def CodeStepsUptoCardSaid : Prop := Claim7.holds Tryz.pinned (.plain (OpenSpec.upto codeStepsSpec)) codeStepsUptoCard

/-- THE SECOND FORM's CARD OF 'topiarylaw11.CodeNames'. -/
def codeNamesUptoCard : Claim7 := { stood := { row := codeNamesUptoRow, standIns := [], harness := (true, "12c297444445eec551cf2520bbe687d940465467fce70ac978a0ea497c9a58df"), looks := true }, kinds := [], alts := [], laidByText := true, laidKinds := [.data, .data, .data, .sentinel, .sentinel, .widerDeep, .data, .widerDeep], laidTests := true, laidLooks := .later }
def CodeNamesUptoCardSaid : Prop := Claim7.holds Tryz.pinned (.plain (OpenSpec.upto codeNamesSpec)) codeNamesUptoCard

/-- THE SECOND FORM's CARD OF 'topiarylaw11.CodeUnlike'. -/
def codeUnlikeUptoCard : Claim7 := { stood := { row := codeUnlikeUptoRow, standIns := [], harness := (true, "12c297444445eec551cf2520bbe687d940465467fce70ac978a0ea497c9a58df"), looks := true }, kinds := [], alts := [], laidByText := true, laidKinds := [.data, .data, .data, .sentinel, .sentinel, .widerDeep, .data, .widerDeep], laidTests := true, laidLooks := .later }
def CodeUnlikeUptoCardSaid : Prop := Claim7.holds Tryz.pinned (.plain (OpenSpec.upto codeUnlikeSpec)) codeUnlikeUptoCard
end Rows
end Go.Proofs.YtdkoafmgenbkbaaGreatDoor
