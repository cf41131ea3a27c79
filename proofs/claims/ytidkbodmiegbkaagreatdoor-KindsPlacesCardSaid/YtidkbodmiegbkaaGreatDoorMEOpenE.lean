/- Taken over out of another chapter (its text EOpenE): what is needed here. -/
import Derived.Test.YtidkbodmiegbkaaGreatDoorLK
import Derived.Test.YtidkbodmiegbkaaGreatDoorCards
import Derived.Test.YtidkbodmiegbkaaGreatDoorTie
import Derived.Test.YtidkbodmiegbkaaGreatDoorProg
import Derived.Test.YtidkbodmiegbkaaGreatDoorMOpenL
import Derived.Below
import Derived.BigQuiet
import Derived.BigRegion
import Derived.Deep.AppendLies
import Derived.Deep.Draws
import Derived.Deep.Fields
import Derived.Deep.LoopGhost
import Derived.Deep.QuietTactic
import Derived.Deep.RegionHeld2
import Derived.Deep.RegionHeld3
import Derived.Deep.RegionLaw
import Derived.Deep.Slices
import Derived.Defers
import Derived.Laws.BytesString
import Derived.Laws.IdiomStrings
import Derived.Laws.Pointers
import Derived.Laws.Rows
import Derived.Lib.AppendStr
import Derived.Lib.Builder
import Derived.Lib.FrozenHead
import Derived.Lib.Hide
import Derived.Lib.ItoaNum
import Derived.Lib.ParseIntB
import Derived.Maps.AppendAt
import Derived.Outline
import Derived.OwnWalk
import Derived.ProofKit
import Derived.Recover
import Derived.RegionTactic
import Derived.SizedLaws
import Derived.StillTailTactics
import Derived.Tactics
import Derived.Tactics2
import Derived.WalkKit
import Derived.WalkMore
import Derived.WalkSmall
import Derived.WalkSpells
namespace Go.Proofs.YtidkbodmiegbkaaGreatDoor
set_option linter.unusedSimpArgs false
set_option linter.unusedVariables false
open Go.RowKit Go.ChangeShapes Go.WideShapes Go.Deep
theorem cellsI_ : Tryz.prog.cellsOf 3 = 1 := by kernel_rfl
theorem open_I {H : Type} {enc : TypeId × Value → H} {w : World} {n : Nat} {x : List Value} {d : DataW H × List MemPlace} (h : DataW.trod enc Tryz.prog w 0 (fun _ => true) true n 3 x = some d) : ∃ z, IsI x z ∧ -9223372036854775808 ≤ z ∧ z ≤ 9223372036854775807 := by
  obtain ⟨s, rfl, _, b⟩ := DataW.trod_int Tryz.underlying3 h
  have e1 : IntKind.i64.min = -9223372036854775808 := rfl
  have e2 : IntKind.i64.max = 9223372036854775807 := rfl
  exact ⟨s, rfl, by simpa [Lit.wf, e1, e2] using b⟩
/-- a node among the arguments -/
theorem open_Node {H : Type} {enc : TypeId × Value → H} {w : World} {n : Nat} {x : List Value} {d : DataW H × List MemPlace} (h : DataW.trod enc Tryz.prog w 0 (fun _ => true) true n 40 x = some d) (hl : Light Tryz.prog 40 d.1) : ∃ z, ND.Is w w.heap.size x z ∧ NdOk z ∧ z.kids.length * 8 ≤ 140737488355328 := by
  obtain ⟨hlen, m, hf⟩ := open_fields_light Tryz.underlying40 (by kernel_rfl) (by kernel_rfl) h hl
  obtain ⟨u0, u1, u2, u3, rfl⟩ := len4 hlen
  obtain ⟨u, y, hu, hy, hL⟩ := hf 0 _ rfl
  obtain rfl : u0 = u := by simpa using hu
  obtain ⟨a0, hk, b0⟩ := open_I hy
  have hk : [u0] = [.int .i64 a0] := hk
  injection hk with hk
  subst hk
  clear hu hy hL
  obtain ⟨u, y, hu, hy, hL⟩ := hf 1 _ rfl
  obtain rfl : u1 = u := by simpa using hu
  obtain ⟨a1, rfl, b1⟩ := open_text Tryz.underlying9 hy hL
  clear hu hy hL
  obtain ⟨u, y, hu, hy, hL⟩ := hf 2 _ rfl
  obtain rfl : u2 = u := by simpa using hu
  obtain ⟨a2, hk, _, b2⟩ := DataW.trod_int Tryz.underlying2 hy
  simp at hk
  subst hk
  have e1 : IntKind.i64.min = -9223372036854775808 := rfl
  have e2 : IntKind.i64.max = 9223372036854775807 := rfl
  have b2' : -9223372036854775808 ≤ a2 ∧ a2 ≤ 9223372036854775807 := by simpa [Lit.wf, e1, e2] using b2
  clear hu hy hL
  obtain ⟨u, y, hu, hy, hL⟩ := hf 3 _ rfl
  obtain rfl : u3 = u := by simpa using hu
  obtain ⟨l, h1, h2⟩ := open_SlR_light (size := 1) (bytes := 8) IsI Tryz.underlying33 cellsI_ (by omega) (by kernel_rfl) hy hL (fun _ _ _ _ h _ => by obtain ⟨z, hz, _⟩ := open_I h; exact ⟨z, hz⟩)
  exact ⟨⟨a0, bs a1, a2, l⟩, ⟨u3, by simp [txt_bs], h1⟩, ⟨bs_bytes a1, by rw [bs_len]; omega, b2'.1, b2'.2⟩, h2⟩
/-- an expression among the arguments -/
theorem open_Expr {H : Type} {enc : TypeId × Value → H} {w : World} {n : Nat} {x : List Value} {d : DataW H × List MemPlace} (h : DataW.trod enc Tryz.prog w 0 (fun _ => true) true n 24 x = some d) (hl : Light Tryz.prog 24 d.1) :
    ∃ (v : Value) (l : List ND), x = [v] ∧ SlR w w.heap.size 4 (ND.Is w w.heap.size) v l ∧ (∀ d ∈ l, NdOk d) ∧ l.length * 56 ≤ 140737488355328 ∧ ∀ d ∈ l, d.kids.length * 8 ≤ 140737488355328 := by
  obtain ⟨hlen, m, hf⟩ := open_fields_light Tryz.underlying24 (by kernel_rfl) (by kernel_rfl) h hl
  obtain ⟨u0, rfl⟩ := len1 hlen
  obtain ⟨u, y, hu, hy, hL⟩ := hf 0 _ rfl
  obtain rfl : u0 = u := by simpa using hu
  obtain ⟨l, h1, h2⟩ := open_SlR_light (size := 4) (bytes := 56) (fun x z => ND.Is w w.heap.size x z ∧ NdOk z ∧ z.kids.length * 8 ≤ 140737488355328) Tryz.underlying22 (by kernel_rfl) (by omega) (by kernel_rfl) hy hL (fun _ _ _ _ h hl => open_Node h hl)
  have key : ∀ d ∈ l, NdOk d ∧ d.kids.length * 8 ≤ 140737488355328 := fun d hd => by
    obtain ⟨i, hi⟩ := List.mem_iff_getElem?.1 hd
    obtain ⟨a, c, rfl, _, _, h3⟩ := h1
    obtain ⟨b, off, _, _, hc⟩ := h3 (by have := (List.getElem?_eq_some_iff.1 hi).1; omega)
    obtain ⟨x, _, hx, _⟩ := hc i d hi
    exact hx.2
  exact ⟨u0, l, rfl, h1.imp fun _ _ h => h.1, fun d hd => (key d hd).1, h2, fun d hd => (key d hd).2⟩
end Go.Proofs.YtidkbodmiegbkaaGreatDoor
