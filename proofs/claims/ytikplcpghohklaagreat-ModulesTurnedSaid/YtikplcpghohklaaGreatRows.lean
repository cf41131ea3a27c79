/-
  No cell of these rows narrows 'for every input' (looked for: loops, veiled, ifaces, maps, wideKeys, modest, calm, conditions, laid).
  DERIVED. THE GIVEN ROWS OF THIS SEAT. 5 by the template 'for every input the law returns true; each argument reads behind the call as it read before'; 0 by the template 'total and deterministic' (their statements: YtikplcpghohklaaGreatTotals.lean).
  GIVEN WITH THE SEED: the statements are not yours to turn. If you find one false, say at which input.
  Laid BY PROGRAM, IN A SANDBOX (cutbox-rows.mjs): the forced cells as the released guide's own fill.sh prints them over the translation d3fad37af77b3208… (all of the seat's roots in one cut). By AI agents, Wed Nov 11 2026. No macro, syntax, notation, axiom, sorry.
-/
import Derived.Test.YtikplcpghohklaaGreatChecked
import GoSem.Claim
import GoSem.ClaimJoined
import GoSem.ClaimMapViews
import Derived.JoinedTies
import Derived.KernelRfl
namespace Go.Proofs.YtikplcpghohklaaGreat
/- THE CELL 'sum', in the pinned program and in every row, IS THE sha256 OF THE DUMP (.gsa) THAT YtikplcpghohklaaGreatProg.lean LOADS. Nothing in Lean hashes anything: it is a label: what it is worth is what the hold of that sum in a sandbox is worth. -/
noncomputable def Tryz.pinned : Pinned := { name := "ytikplcpghohklaagreat", sum := "d3fad37af77b3208e1ab12bd2a93cfa0c171d500abb5155bce7e386d941cc456", checked := Tryz.checked }
namespace Rows
def none {H : Type} : Left H := { results := [], args := [] }

/-- 'topiarylaw24.ModulesAhead': WHATEVER THE INPUT: true; the input reads as it did. -/
def modulesAheadSpec : ChangeSpec := { name := "modulesAhead", fn := fun _ => fun
  | [d] => { results := [.lit (.bool true)], args := [d] }
  | _ => none }
def modulesAheadRow : OpenClaim := { program := "ytikplcpghohklaagreat", sum := "d3fad37af77b3208e1ab12bd2a93cfa0c171d500abb5155bce7e386d941cc456", func := "topiary/topiarylaw24.ModulesAhead", spec := "modulesAhead", unfollowed := true, recurses := true, apart := false }
def ModulesAheadSaid : Prop := modulesAheadRow.holds Tryz.pinned (OpenSpec.ofChange modulesAheadSpec)

/-- ITS FALSE NEIGHBOUR: 'it returns false'. Refute it at one input. -/
def modulesAheadWrong : ChangeSpec := { name := "modulesAhead", fn := fun _ => fun
  | [d] => { results := [.lit (.bool false)], args := [d] }
  | _ => none }
def ModulesAheadWrongFalsely : Prop := modulesAheadRow.holds Tryz.pinned (OpenSpec.ofChange modulesAheadWrong)

/-- 'topiarylaw24.ModulesClosed': WHATEVER THE INPUT: true; the input reads as it did. -/
def modulesClosedSpec : ChangeSpec := { name := "modulesClosed", fn := fun _ => fun
  | [d1, d2] => { results := [.lit (.bool true)], args := [d1, d2] }
  | _ => none }
def modulesClosedRow : OpenClaim := { program := "ytikplcpghohklaagreat", sum := "d3fad37af77b3208e1ab12bd2a93cfa0c171d500abb5155bce7e386d941cc456", func := "topiary/topiarylaw24.ModulesClosed", spec := "modulesClosed", unfollowed := true, recurses := true, apart := false }
def ModulesClosedSaid : Prop := modulesClosedRow.holds Tryz.pinned (OpenSpec.ofChange modulesClosedSpec)

/-- ITS FALSE NEIGHBOUR: 'it returns false'. Refute it at one input. -/
def modulesClosedWrong : ChangeSpec := { name := "modulesClosed", fn := fun _ => fun
  | [d1, d2] => { results := [.lit (.bool false)], args := [d1, d2] }
  | _ => none }
def ModulesClosedWrongFalsely : Prop := modulesClosedRow.holds Tryz.pinned (OpenSpec.ofChange modulesClosedWrong)

/-- 'topiarylaw24.ModulesMore': WHATEVER THE INPUT: true; the input reads as it did. -/
def modulesMoreSpec : ChangeSpec := { name := "modulesMore", fn := fun _ => fun
  | [d1, d2] => { results := [.lit (.bool true)], args := [d1, d2] }
  | _ => none }
def modulesMoreRow : OpenClaim := { program := "ytikplcpghohklaagreat", sum := "d3fad37af77b3208e1ab12bd2a93cfa0c171d500abb5155bce7e386d941cc456", func := "topiary/topiarylaw24.ModulesMore", spec := "modulesMore", unfollowed := true, recurses := true, apart := false }
def ModulesMoreSaid : Prop := modulesMoreRow.holds Tryz.pinned (OpenSpec.ofChange modulesMoreSpec)

/-- ITS FALSE NEIGHBOUR: 'it returns false'. Refute it at one input. -/
def modulesMoreWrong : ChangeSpec := { name := "modulesMore", fn := fun _ => fun
  | [d1, d2] => { results := [.lit (.bool false)], args := [d1, d2] }
  | _ => none }
def ModulesMoreWrongFalsely : Prop := modulesMoreRow.holds Tryz.pinned (OpenSpec.ofChange modulesMoreWrong)

/-- 'topiarylaw24.ModulesTurned': WHATEVER THE INPUT: true; the input reads as it did. -/
def modulesTurnedSpec : ChangeSpec := { name := "modulesTurned", fn := fun _ => fun
  | [d1, d2, d3] => { results := [.lit (.bool true)], args := [d1, d2, d3] }
  | _ => none }
def modulesTurnedRow : OpenClaim := { program := "ytikplcpghohklaagreat", sum := "d3fad37af77b3208e1ab12bd2a93cfa0c171d500abb5155bce7e386d941cc456", func := "topiary/topiarylaw24.ModulesTurned", spec := "modulesTurned", unfollowed := true, recurses := true, apart := false }
def ModulesTurnedSaid : Prop := modulesTurnedRow.holds Tryz.pinned (OpenSpec.ofChange modulesTurnedSpec)

/-- ITS FALSE NEIGHBOUR: 'it returns false'. Refute it at one input. -/
def modulesTurnedWrong : ChangeSpec := { name := "modulesTurned", fn := fun _ => fun
  | [d1, d2, d3] => { results := [.lit (.bool false)], args := [d1, d2, d3] }
  | _ => none }
def ModulesTurnedWrongFalsely : Prop := modulesTurnedRow.holds Tryz.pinned (OpenSpec.ofChange modulesTurnedWrong)

/-- 'topiarylaw24.ModulesTable': WHATEVER THE INPUT: true; the input reads as it did. -/
def modulesTableSpec : ChangeSpec := { name := "modulesTable", fn := fun _ => fun
  | [d1, d2, d3, d4] => { results := [.lit (.bool true)], args := [d1, d2, d3, d4] }
  | _ => none }
def modulesTableRow : OpenClaim := { program := "ytikplcpghohklaagreat", sum := "d3fad37af77b3208e1ab12bd2a93cfa0c171d500abb5155bce7e386d941cc456", func := "topiary/topiarylaw24.ModulesTable", spec := "modulesTable", inPlace := ["sync/atomic.AddInt64", "sync/atomic.LoadUint32", "(*internal/sync.Mutex).Lock", "internal/race.Disable", "sync/atomic.CompareAndSwapInt32", "internal/race.Enable", "internal/race.Acquire", "(*internal/sync.Mutex).lockSlow", "internal/sync.runtime_canSpin", "internal/sync.runtime_doSpin", "internal/sync.throw", "internal/sync.runtime_nanotime", "internal/sync.runtime_SemacquireMutex", "sync/atomic.AddInt32", "(*internal/sync.Mutex).Unlock", "internal/race.ReleaseMerge", "(*internal/sync.Mutex).unlockSlow", "internal/sync.fatal", "internal/sync.runtime_Semrelease", "sync/atomic.StoreUint32"], unfollowed := true, recurses := true, apart := false }
def ModulesTableSaid : Prop := modulesTableRow.holds Tryz.pinned (OpenSpec.ofChange modulesTableSpec)

/-- ITS FALSE NEIGHBOUR: 'it returns false'. Refute it at one input. -/
def modulesTableWrong : ChangeSpec := { name := "modulesTable", fn := fun _ => fun
  | [d1, d2, d3, d4] => { results := [.lit (.bool false)], args := [d1, d2, d3, d4] }
  | _ => none }
def ModulesTableWrongFalsely : Prop := modulesTableRow.holds Tryz.pinned (OpenSpec.ofChange modulesTableWrong)

/- THE SECOND FORM. 'bulk': how many values and letters a reading holds, each counted each time it is reached (what is shared counts as often as it is met; a slice's spare places count too). A statement '..UptoSaid' is the law's where the arguments, and the package variables that the reading takes, are together of bulk at most 1048576: NARROWER than '..Said'. Prove '..Said' where nothing that the law and all that it calls make is longer than what came in: it says more and counts as full. Else prove '..UptoSaid'. A law counts once. -/
mutual
def uptoBulk {H : Type} : DataW H → Nat
  | .lit (.string bytes) => bytes.length + 1
  | .lit _ => 1
  | .nil => 1
  | .ptr d => uptoBulk d + 1
  | .slice elems spare => uptoBulkAll elems + uptoBulkAll spare + 1
  | .agg parts => uptoBulkAll parts + 1
  | .iface _ d => uptoBulk d + 1
  | .map entries => uptoBulkEntries entries + 1
  | .held _ => 1
def uptoBulkAll {H : Type} : List (DataW H) → Nat
  | [] => 0
  | d :: r => uptoBulk d + uptoBulkAll r
def uptoBulkEntries {H : Type} : List (Lit × DataW H) → Nat
  | [] => 0
  | x :: r => uptoBulkEntry x + uptoBulkEntries r
def uptoBulkEntry {H : Type} : Lit × DataW H → Nat
  | (.string bytes, d) => bytes.length + uptoBulk d + 1
  | (_, d) => uptoBulk d + 1
 end
def uptoSmall : (H : Type) → List (DataW H) → Bool := fun _ ds => decide (uptoBulkAll ds ≤ 1048576)
def OpenSpec.upto (s : _root_.Go.ChangeSpec) : _root_.Go.OpenSpec := { _root_.Go.OpenSpec.ofChange s with cond := some uptoSmall }

/-- 'topiarylaw24.ModulesAhead', WHERE WHAT IT READS IS OF BULK AT MOST 1048576: true; the input reads as it did. -/
def modulesAheadUptoRow : OpenClaim := { program := "ytikplcpghohklaagreat", sum := "d3fad37af77b3208e1ab12bd2a93cfa0c171d500abb5155bce7e386d941cc456", func := "topiary/topiarylaw24.ModulesAhead", spec := "modulesAhead", unfollowed := true, recurses := true, apart := false, narrowed := true }
def ModulesAheadUptoSaid : Prop := modulesAheadUptoRow.holds Tryz.pinned (OpenSpec.upto modulesAheadSpec)

/-- 'topiarylaw24.ModulesClosed', WHERE WHAT IT READS IS OF BULK AT MOST 1048576: true; the input reads as it did. -/
def modulesClosedUptoRow : OpenClaim := { program := "ytikplcpghohklaagreat", sum := "d3fad37af77b3208e1ab12bd2a93cfa0c171d500abb5155bce7e386d941cc456", func := "topiary/topiarylaw24.ModulesClosed", spec := "modulesClosed", unfollowed := true, recurses := true, apart := false, narrowed := true }
def ModulesClosedUptoSaid : Prop := modulesClosedUptoRow.holds Tryz.pinned (OpenSpec.upto modulesClosedSpec)

/-- 'topiarylaw24.ModulesMore', WHERE WHAT IT READS IS OF BULK AT MOST 1048576: true; the input reads as it did. -/
def modulesMoreUptoRow : OpenClaim := { program := "ytikplcpghohklaagreat", sum := "d3fad37af77b3208e1ab12bd2a93cfa0c171d500abb5155bce7e386d941cc456", func := "topiary/topiarylaw24.ModulesMore", spec := "modulesMore", unfollowed := true, recurses := true, apart := false, narrowed := true }
def ModulesMoreUptoSaid : Prop := modulesMoreUptoRow.holds Tryz.pinned (OpenSpec.upto modulesMoreSpec)

/-- 'topiarylaw24.ModulesTurned', WHERE WHAT IT READS IS OF BULK AT MOST 1048576: true; the input reads as it did. -/
def modulesTurnedUptoRow : OpenClaim := { program := "ytikplcpghohklaagreat", sum := "d3fad37af77b3208e1ab12bd2a93cfa0c171d500abb5155bce7e386d941cc456", func := "topiary/topiarylaw24.ModulesTurned", spec := "modulesTurned", unfollowed := true, recurses := true, apart := false, narrowed := true }
def ModulesTurnedUptoSaid : Prop := modulesTurnedUptoRow.holds Tryz.pinned (OpenSpec.upto modulesTurnedSpec)

/-- 'topiarylaw24.ModulesTable', WHERE WHAT IT READS IS OF BULK AT MOST 1048576: true; the input reads as it did. -/
def modulesTableUptoRow : OpenClaim := { program := "ytikplcpghohklaagreat", sum := "d3fad37af77b3208e1ab12bd2a93cfa0c171d500abb5155bce7e386d941cc456", func := "topiary/topiarylaw24.ModulesTable", spec := "modulesTable", inPlace := ["sync/atomic.AddInt64", "sync/atomic.LoadUint32", "(*internal/sync.Mutex).Lock", "internal/race.Disable", "sync/atomic.CompareAndSwapInt32", "internal/race.Enable", "internal/race.Acquire", "(*internal/sync.Mutex).lockSlow", "internal/sync.runtime_canSpin", "internal/sync.runtime_doSpin", "internal/sync.throw", "internal/sync.runtime_nanotime", "internal/sync.runtime_SemacquireMutex", "sync/atomic.AddInt32", "(*internal/sync.Mutex).Unlock", "internal/race.ReleaseMerge", "(*internal/sync.Mutex).unlockSlow", "internal/sync.fatal", "internal/sync.runtime_Semrelease", "sync/atomic.StoreUint32"], unfollowed := true, recurses := true, apart := false, narrowed := true }
def ModulesTableUptoSaid : Prop := modulesTableUptoRow.holds Tryz.pinned (OpenSpec.upto modulesTableSpec)

end Rows
end Go.Proofs.YtikplcpghohklaaGreat
