/- Taken over out of another chapter (its text CrA): what is needed here. -/
import Derived.Test.YtidkbodmiegbkaaGreatDoorLK
import Derived.Below
import Derived.BigQuiet
import Derived.BigRegion
import Derived.Deep.AppendLies
import Derived.Deep.CutBlock
import Derived.Deep.CutRange
import Derived.Deep.Draws
import Derived.Deep.Fields
import Derived.Deep.LoopGhost
import Derived.Deep.QuietTactic
import Derived.Deep.RegionHeld2
import Derived.Deep.RegionHeld3
import Derived.Deep.RegionLaw
import Derived.Deep.Slices
import Derived.Defers
import Derived.IntWalk
import Derived.Laws.BytesString
import Derived.Laws.Cover1
import Derived.Laws.EntriesVeiled
import Derived.Laws.IdiomStrings
import Derived.Laws.MakeOwn
import Derived.Laws.Pointers
import Derived.Laws.Rows
import Derived.Lib.AppendStr
import Derived.Lib.Builder
import Derived.Lib.CutLaws
import Derived.Lib.FrozenHead
import Derived.Lib.Hide
import Derived.Lib.ItoaNum
import Derived.Lib.ParseIntB
import Derived.Lib.SliceRun
import Derived.Lib.SlicesS
import Derived.Maps.AppendAt
import Derived.Orders
import Derived.Outline
import Derived.OwnWalk
import Derived.ProofKit
import Derived.Recover
import Derived.RegionTactic
import Derived.StillTailTactics
import Derived.Tactics
import Derived.Tactics2
import Derived.WalkKit
import Derived.WalkMore
import Derived.WalkSmall
import Derived.WalkSpells
namespace Go.Proofs.YtidkbodmiegbkaaGreatDoor
set_option linter.unusedSimpArgs false
set_option linter.unusedVariables false
open Go.RowKit
theorem rkid_cell {W0 : World} {p B : Nat} {ks : List Tr} {kb ko : Nat} {kn kc : Nat} (hkv : SlR W0 B 1 IsI (.slice (some ⟨kb, ko, none⟩) kn kc) ((placesL ks p).map fun n : Nat => (n : Int))) {j q : Nat} (hq : (placesL ks p)[j]? = some q) {w : World} (hb : Below B W0 w) : w.cell? ⟨kb, ko + j, none⟩ = some (.int .i64 (q : Int)) := by
  have hq' : ((placesL ks p).map fun n : Nat => (n : Int))[j]? = some (q : Int) := by rw [List.getElem?_map, hq]; rfl
  obtain ⟨b, off, x, e1, hbB, hxl, rfl, hx⟩ := (hkv.below hb).at_ hq'
  injection e1 with e1
  injection e1 with e1 e2
  subst e1 e2
  have x0 := hx 0 _ rfl
  simp only [Nat.add_zero, Nat.mul_one] at x0
  exact x0
end Go.Proofs.YtidkbodmiegbkaaGreatDoor
