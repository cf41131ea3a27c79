/-
  DERIVED. GIVEN WITH THE SEED: THE CARDS: each row of YtdkoafmgenbkbaaDoorRows.lean that lists a variable, with what it lists TIED to the program's text (the seventh form; the later family's looks); each row that meets fmt, with fmt's text TOLD by the authors' own Lean function (tested against real Go, not proved from fmt's source: count such statements apart). THE CARD IS WHAT COUNTS. Prove the row's statement (the work); the ties are given (YtdkoafmgenbkbaaDoorTie.lean); close each card by the builder's one call (the guide's Derived/Test/ToyasCard.lean, 'card_holds'). Laid BY PROGRAM, IN A SANDBOX (cutbox-door.mjs). By AI agents, Wed Nov 11 2026. No macro, syntax, notation, axiom, sorry.
-/
import Derived.Test.YtdkoafmgenbkbaaDoorRows
import GoSem.ClaimSeven
namespace Go.Proofs.YtdkoafmgenbkbaaDoor
namespace Rows

/-- THE TIED CARD OF 'topiarylaw11.CodeRights'. -/
def codeRightsCard : Claim7 := { stood := { row := codeRightsRow, standIns := [], harness := (true, "e536a5331625623d4e4feba7d4b87daf78c7e06c6e19a24ac3d61173efc2fd50"), looks := true }, kinds := [], alts := [], laidByText := true, laidKinds := [.data, .data, .data, .widerDeep], laidTests := true, laidLooks := .later }
def CodeRightsCardSaid : Prop := Claim7.holds Tryd.pinned (.plain (OpenSpec.ofChange codeRightsSpec)) codeRightsCard

/-- THE TIED CARD OF 'topiarylaw11.CodeCompiles'. -/
def codeCompilesCard : Claim7 := { stood := { row := codeCompilesRow, standIns := [], harness := (true, "e536a5331625623d4e4feba7d4b87daf78c7e06c6e19a24ac3d61173efc2fd50"), looks := true }, kinds := [], alts := [], laidByText := true, laidKinds := [.data, .data, .data, .widerDeep], laidTests := true, laidLooks := .later }
def CodeCompilesCardSaid : Prop := Claim7.holds Tryd.pinned (.plain (OpenSpec.ofChange codeCompilesSpec)) codeCompilesCard

/-- THE TIED CARD OF 'topiarylaw11.CodeReads'. -/
def codeReadsCard : Claim7 := { stood := { row := codeReadsRow, standIns := [], harness := (true, "e536a5331625623d4e4feba7d4b87daf78c7e06c6e19a24ac3d61173efc2fd50"), looks := true }, kinds := [], alts := [], laidByText := true, laidKinds := [.data, .data, .data, .sentinel, .sentinel, .widerDeep], laidTests := true, laidLooks := .later }
def CodeReadsCardSaid : Prop := Claim7.holds Tryd.pinned (.plain (OpenSpec.ofChange codeReadsSpec)) codeReadsCard

/-- THE SECOND FORM's CARD OF 'topiarylaw11.CodeRights'. -/
def codeRightsUptoCard : Claim7 := { stood := { row := codeRightsUptoRow, standIns := [], harness := (true, "e536a5331625623d4e4feba7d4b87daf78c7e06c6e19a24ac3d61173efc2fd50"), looks := true }, kinds := [], alts := [], laidByText := true, laidKinds := [.data, .data, .data, .widerDeep], laidTests := true, laidLooks := .later }
def CodeRightsUptoCardSaid : Prop := Claim7.holds Tryd.pinned (.plain (OpenSpec.upto codeRightsSpec)) codeRightsUptoCard

/-- THE SECOND FORM's CARD OF 'topiarylaw11.CodeCompiles'. -/
def codeCompilesUptoCard : Claim7 := { stood := { row := codeCompilesUptoRow, standIns := [], harness := (true, "e536a5331625623d4e4feba7d4b87daf78c7e06c6e19a24ac3d61173efc2fd50"), looks := true }, kinds := [], alts := [], laidByText := true, laidKinds := [.data, .data, .data, .widerDeep], laidTests := true, laidLooks := .later }
def CodeCompilesUptoCardSaid : Prop := Claim7.holds Tryd.pinned (.plain (OpenSpec.upto codeCompilesSpec)) codeCompilesUptoCard

/-- THE SECOND FORM's CARD OF 'topiarylaw11.CodeReads'. -/
def codeReadsUptoCard : Claim7 := { stood := { row := codeReadsUptoRow, standIns := [], harness := (true, "e536a5331625623d4e4feba7d4b87daf78c7e06c6e19a24ac3d61173efc2fd50"), looks := true }, kinds := [], alts := [], laidByText := true, laidKinds := [.data, .data, .data, .sentinel, .sentinel, .widerDeep], laidTests := true, laidLooks := .later }
def CodeReadsUptoCardSaid : Prop := Claim7.holds Tryd.pinned (.plain (OpenSpec.upto codeReadsSpec)) codeReadsUptoCard
end Rows
end Go.Proofs.YtdkoafmgenbkbaaDoor
