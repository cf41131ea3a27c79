/- - -/
import Derived.Test.YtdkoafmgenbkbaaGreatDoorKM9
set_option maxRecDepth 100000
set_option maxHeartbeats 32000000
set_option linter.unusedSimpArgs false
set_option linter.unusedVariables false
namespace Go.Proofs.YtdkoafmgenbkbaaGreatDoor
open Go.RowKit
theorem region_split2 {P : Program} {id : Nat} {ops : Array Oper} {dr : Bool} {Q : Exit → Act → World → Prop} {a : Act} {X : World} (R : Nat → Nat → World → Prop) (Fr : Nat → Nat → Act)
    (h : (∀ b1 b2 w6, R b1 b2 w6 → Q .normal (Fr b1 b2) w6) → Code.wp P (Code.region id ops dr) Q a X) (key : ∀ b1 b2 w6, R b1 b2 w6 → Q .normal (Fr b1 b2) w6) : Code.wp P (Code.region id ops dr) Q a X := h key
theorem two_new (w : World) (c1 c2 : Array Value) (t : TypeId) : Blk ((w.alloc (.cells c1 t)).alloc (.cells c2 t)).drew w.heap.size t c1 ∧ Blk ((w.alloc (.cells c1 t)).alloc (.cells c2 t)).drew (w.heap.size + 1) t c2 ∧ Below w.heap.size w ((w.alloc (.cells c1 t)).alloc (.cells c2 t)).drew := by
  have h1 : Blk ((w.alloc (.cells c1 t)).alloc (.cells c2 t)) w.heap.size t c1 := (Blk.new _ _ _).alloc _
  have h2 : Blk ((w.alloc (.cells c1 t)).alloc (.cells c2 t)) (w.heap.size + 1) t c2 := Blk.new_ (by rw [World.size_alloc]) _ _
  exact ⟨h1.below (zB.drew) h1.lt, h2.below (zB.drew) h2.lt, ((zB.alloc zL _).alloc (by rw [World.size_alloc]; omega) _).drew⟩
end Go.Proofs.YtdkoafmgenbkbaaGreatDoor
