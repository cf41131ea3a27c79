/-
  DERIVED. GIVEN WITH THE SEED: THE CARDS: each row of YtffhogadgjnkkaaDoorRows.lean that lists a variable, with what it lists TIED to the program's text (the seventh form; the later family's looks); each row that meets fmt, with fmt's text TOLD by the authors' own Lean function (tested against real Go, not proved from fmt's source: count such statements apart). THE CARD IS WHAT COUNTS. Prove the row's statement (the work); the ties are given (YtffhogadgjnkkaaDoorTie.lean); close each card by the builder's one call (the guide's Derived/Test/ToyasCard.lean, 'card_holds'). Laid BY PROGRAM, IN A SANDBOX (cutbox-door.mjs). By AI agents, Wed Nov 11 2026. No macro, syntax, notation, axiom, sorry.
-/
import Derived.Test.YtffhogadgjnkkaaDoorRows
import GoSem.ClaimSeven
namespace Go.Proofs.YtffhogadgjnkkaaDoor
namespace Rows

/-- THE TIED CARD OF 'topiarylaw01.NamesInts'. -/
def namesIntsCard : Claim7 := { stood := { row := namesIntsRow, standIns := [], harness := (true, "fd835b0e485e02ff536d666cd2d15a67d29dafd282a1e61007bb4795c5ab2861"), looks := true }, kinds := [], alts := [], laidByText := true, laidKinds := [.data, .data, .data, .sentinel, .sentinel], laidTests := true, laidLooks := .later }
def NamesIntsCardSaid : Prop := Claim7.holds Tryd.pinned (.plain (OpenSpec.ofChange namesIntsSpec)) namesIntsCard

/-- THE TIED CARD OF 'topiarylaw01.NamesTell'. -/
def namesTellCard : Claim7 := { stood := { row := namesTellRow, standIns := [], harness := (true, "fd835b0e485e02ff536d666cd2d15a67d29dafd282a1e61007bb4795c5ab2861"), looks := true }, kinds := [], alts := [], laidByText := true, laidKinds := [.data, .data, .data, .sentinel, .sentinel], laidTests := true, laidLooks := .later }
def NamesTellCardSaid : Prop := Claim7.holds Tryd.pinned (.plain (OpenSpec.ofChange namesTellSpec)) namesTellCard

/-- THE TIED CARD OF 'topiarylaw01.NamesBack'. -/
def namesBackCard : Claim7 := { stood := { row := namesBackRow, standIns := [], harness := (true, "fd835b0e485e02ff536d666cd2d15a67d29dafd282a1e61007bb4795c5ab2861"), looks := true }, kinds := [], alts := [], laidByText := true, laidKinds := [.data, .data, .data, .sentinel, .sentinel], laidTests := true, laidLooks := .later }
def NamesBackCardSaid : Prop := Claim7.holds Tryd.pinned (.plain (OpenSpec.ofChange namesBackSpec)) namesBackCard

/-- THE TIED CARD OF 'topiarylaw01.NamesStops'. -/
def namesStopsCard : Claim7 := { stood := { row := namesStopsRow, standIns := [], harness := (true, "fd835b0e485e02ff536d666cd2d15a67d29dafd282a1e61007bb4795c5ab2861"), looks := true }, kinds := [], alts := [], laidByText := true, laidKinds := [.data, .data, .data, .sentinel, .sentinel], laidTests := true, laidLooks := .later }
def NamesStopsCardSaid : Prop := Claim7.holds Tryd.pinned (.plain (OpenSpec.ofChange namesStopsSpec)) namesStopsCard

/-- THE TIED CARD OF 'topiarylaw01.NamesGrow'. -/
def namesGrowCard : Claim7 := { stood := { row := namesGrowRow, standIns := [], harness := (true, "fd835b0e485e02ff536d666cd2d15a67d29dafd282a1e61007bb4795c5ab2861"), looks := true }, kinds := [], alts := [], laidByText := true, laidKinds := [.data, .data, .data, .sentinel, .sentinel], laidTests := true, laidLooks := .later }
def NamesGrowCardSaid : Prop := Claim7.holds Tryd.pinned (.plain (OpenSpec.ofChange namesGrowSpec)) namesGrowCard

/-- THE SECOND FORM's CARD OF 'topiarylaw01.NamesInts'. -/
def namesIntsUptoCard : Claim7 := { stood := { row := namesIntsUptoRow, standIns := [], harness := (true, "fd835b0e485e02ff536d666cd2d15a67d29dafd282a1e61007bb4795c5ab2861"), looks := true }, kinds := [], alts := [], laidByText := true, laidKinds := [.data, .data, .data, .sentinel, .sentinel], laidTests := true, laidLooks := .later }
def NamesIntsUptoCardSaid : Prop := Claim7.holds Tryd.pinned (.plain (OpenSpec.upto namesIntsSpec)) namesIntsUptoCard

/-- THE SECOND FORM's CARD OF 'topiarylaw01.NamesTell'. -/
def namesTellUptoCard : Claim7 := { stood := { row := namesTellUptoRow, standIns := [], harness := (true, "fd835b0e485e02ff536d666cd2d15a67d29dafd282a1e61007bb4795c5ab2861"), looks := true }, kinds := [], alts := [], laidByText := true, laidKinds := [.data, .data, .data, .sentinel, .sentinel], laidTests := true, laidLooks := .later }
def NamesTellUptoCardSaid : Prop := Claim7.holds Tryd.pinned (.plain (OpenSpec.upto namesTellSpec)) namesTellUptoCard

/-- THE SECOND FORM's CARD OF 'topiarylaw01.NamesBack'. -/
def namesBackUptoCard : Claim7 := { stood := { row := namesBackUptoRow, standIns := [], harness := (true, "fd835b0e485e02ff536d666cd2d15a67d29dafd282a1e61007bb4795c5ab2861"), looks := true }, kinds := [], alts := [], laidByText := true, laidKinds := [.data, .data, .data, .sentinel, .sentinel], laidTests := true, laidLooks := .later }
def NamesBackUptoCardSaid : Prop := Claim7.holds Tryd.pinned (.plain (OpenSpec.upto namesBackSpec)) namesBackUptoCard

/-- THE SECOND FORM's CARD OF 'topiarylaw01.NamesStops'. -/
def namesStopsUptoCard : Claim7 := { stood := { row := namesStopsUptoRow, standIns := [], harness := (true, "fd835b0e485e02ff536d666cd2d15a67d29dafd282a1e61007bb4795c5ab2861"), looks := true }, kinds := [], alts := [], laidByText := true, laidKinds := [.data, .data, .data, .sentinel, .sentinel], laidTests := true, laidLooks := .later }
def NamesStopsUptoCardSaid : Prop := Claim7.holds Tryd.pinned (.plain (OpenSpec.upto namesStopsSpec)) namesStopsUptoCard

/-- THE SECOND FORM's CARD OF 'topiarylaw01.NamesGrow'. -/
def namesGrowUptoCard : Claim7 := { stood := { row := namesGrowUptoRow, standIns := [], harness := (true, "fd835b0e485e02ff536d666cd2d15a67d29dafd282a1e61007bb4795c5ab2861"), looks := true }, kinds := [], alts := [], laidByText := true, laidKinds := [.data, .data, .data, .sentinel, .sentinel], laidTests := true, laidLooks := .later }
def NamesGrowUptoCardSaid : Prop := Claim7.holds Tryd.pinned (.plain (OpenSpec.upto namesGrowSpec)) namesGrowUptoCard
end Rows
end Go.Proofs.YtffhogadgjnkkaaDoor
