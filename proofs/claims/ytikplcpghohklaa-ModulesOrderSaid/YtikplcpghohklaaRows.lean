/-
  No cell of these rows narrows 'for every input' (looked for: loops, veiled, ifaces, maps, wideKeys, modest, calm, conditions, laid).
  DERIVED. THE GIVEN ROWS OF THIS SEAT. 2 by the template 'for every input the law returns true; each argument reads behind the call as it read before'; 0 by the template 'total and deterministic' (their statements: YtikplcpghohklaaTotals.lean).
  GIVEN WITH THE SEED: the statements are not yours to turn. If you find one false, say at which input.
  Laid BY PROGRAM, IN A SANDBOX (cutbox-rows.mjs): the forced cells as the released guide's own fill.sh prints them over the translation a8cd278e06a512dc… (all of the seat's roots in one cut). By AI agents, Wed Nov 11 2026. No macro, syntax, notation, axiom, sorry.
-/
import Derived.Test.YtikplcpghohklaaChecked
import GoSem.Claim
import GoSem.ClaimJoined
import GoSem.ClaimMapViews
import Derived.JoinedTies
import Derived.KernelRfl
namespace Go.Proofs.Ytikplcpghohklaa
/- THE CELL 'sum', in the pinned program and in every row, IS THE sha256 OF THE DUMP (.gsa) THAT YtikplcpghohklaaProg.lean LOADS. Nothing in Lean hashes anything: it is a label: what it is worth is what the hold of that sum in a sandbox is worth. -/
noncomputable def Try.pinned : Pinned := { name := "ytikplcpghohklaa", sum := "a8cd278e06a512dc8f48431e9132eed97fd2331eec62f1b456049ba94adb5556", checked := Try.checked }
namespace Rows
def none {H : Type} : Left H := { results := [], args := [] }

/-- 'topiarylaw24.ModulesOrder': WHATEVER THE INPUT: true; the input reads as it did. -/
def modulesOrderSpec : ChangeSpec := { name := "modulesOrder", fn := fun _ => fun
  | [d] => { results := [.lit (.bool true)], args := [d] }
  | _ => none }
def modulesOrderRow : OpenClaim := { program := "ytikplcpghohklaa", sum := "a8cd278e06a512dc8f48431e9132eed97fd2331eec62f1b456049ba94adb5556", func := "topiary/topiarylaw24.ModulesOrder", spec := "modulesOrder", unfollowed := true, recurses := true, apart := false }
def ModulesOrderSaid : Prop := modulesOrderRow.holds Try.pinned (OpenSpec.ofChange modulesOrderSpec)

/-- ITS FALSE NEIGHBOUR: 'it returns false'. Refute it at one input. -/
def modulesOrderWrong : ChangeSpec := { name := "modulesOrder", fn := fun _ => fun
  | [d] => { results := [.lit (.bool false)], args := [d] }
  | _ => none }
def ModulesOrderWrongFalsely : Prop := modulesOrderRow.holds Try.pinned (OpenSpec.ofChange modulesOrderWrong)

/-- 'topiarylaw24.ModulesClose': WHATEVER THE INPUT: true; the input reads as it did. -/
def modulesCloseSpec : ChangeSpec := { name := "modulesClose", fn := fun _ => fun
  | [d1, d2] => { results := [.lit (.bool true)], args := [d1, d2] }
  | _ => none }
def modulesCloseRow : OpenClaim := { program := "ytikplcpghohklaa", sum := "a8cd278e06a512dc8f48431e9132eed97fd2331eec62f1b456049ba94adb5556", func := "topiary/topiarylaw24.ModulesClose", spec := "modulesClose", unfollowed := true, recurses := true, apart := false }
def ModulesCloseSaid : Prop := modulesCloseRow.holds Try.pinned (OpenSpec.ofChange modulesCloseSpec)

/-- ITS FALSE NEIGHBOUR: 'it returns false'. Refute it at one input. -/
def modulesCloseWrong : ChangeSpec := { name := "modulesClose", fn := fun _ => fun
  | [d1, d2] => { results := [.lit (.bool false)], args := [d1, d2] }
  | _ => none }
def ModulesCloseWrongFalsely : Prop := modulesCloseRow.holds Try.pinned (OpenSpec.ofChange modulesCloseWrong)

/- THE SECOND FORM. 'bulk': how many values and letters a reading holds, each counted each time it is reached (what is shared counts as often as it is met; a slice's spare places count too). A statement '..UptoSaid' is the law's where the arguments, and the package variables that the reading takes, are together of bulk at most 1048576: NARROWER than '..Said'. Prove '..Said' where nothing that the law and all that it calls make is longer than what came in: it says more and counts as full. Else prove '..UptoSaid'. A law counts once. -/
mutual
def uptoBulk {H : Type} : DataW H → Nat
  | .lit (.string bytes) => bytes.length + 1
  | .lit _ => 1
  | .nil => 1
  | .ptr d => uptoBulk d + 1
  | .slice elems spare => uptoBulkAll elems + uptoBulkAll spare + 1
  | .agg parts => uptoBulkAll parts + 1
  | .iface _ d => uptoBulk d + 1
  | .map entries => uptoBulkEntries entries + 1
  | .held _ => 1
def uptoBulkAll {H : Type} : List (DataW H) → Nat
  | [] => 0
  | d :: r => uptoBulk d + uptoBulkAll r
def uptoBulkEntries {H : Type} : List (Lit × DataW H) → Nat
  | [] => 0
  | x :: r => uptoBulkEntry x + uptoBulkEntries r
def uptoBulkEntry {H : Type} : Lit × DataW H → Nat
  | (.string bytes, d) => bytes.length + uptoBulk d + 1
  | (_, d) => uptoBulk d + 1
 end
def uptoSmall : (H : Type) → List (DataW H) → Bool := fun _ ds => decide (uptoBulkAll ds ≤ 1048576)
def OpenSpec.upto (s : _root_.Go.ChangeSpec) : _root_.Go.OpenSpec := { _root_.Go.OpenSpec.ofChange s with cond := some uptoSmall }

/-- 'topiarylaw24.ModulesOrder', WHERE WHAT IT READS IS OF BULK AT MOST 1048576: true; the input reads as it did. -/
def modulesOrderUptoRow : OpenClaim := { program := "ytikplcpghohklaa", sum := "a8cd278e06a512dc8f48431e9132eed97fd2331eec62f1b456049ba94adb5556", func := "topiary/topiarylaw24.ModulesOrder", spec := "modulesOrder", unfollowed := true, recurses := true, apart := false, narrowed := true }
def ModulesOrderUptoSaid : Prop := modulesOrderUptoRow.holds Try.pinned (OpenSpec.upto modulesOrderSpec)

/-- 'topiarylaw24.ModulesClose', WHERE WHAT IT READS IS OF BULK AT MOST 1048576: true; the input reads as it did. -/
def modulesCloseUptoRow : OpenClaim := { program := "ytikplcpghohklaa", sum := "a8cd278e06a512dc8f48431e9132eed97fd2331eec62f1b456049ba94adb5556", func := "topiary/topiarylaw24.ModulesClose", spec := "modulesClose", unfollowed := true, recurses := true, apart := false, narrowed := true }
def ModulesCloseUptoSaid : Prop := modulesCloseUptoRow.holds Try.pinned (OpenSpec.upto modulesCloseSpec)

end Rows
end Go.Proofs.Ytikplcpghohklaa
