import Derived.Test.YtdhljfblkidohaaTwC
import Derived.WalkSpells
import Derived.Deep.RegionHeld3
import Derived.Deep.AppendLies
import Derived.Outline
namespace Go.Proofs.Ytdhljfblkidohaa
set_option linter.unusedSimpArgs false
set_option linter.unusedVariables false
open Go.RowKit

theorem infoL_text : (Try.prog.info? 9).map (fun i => (i.zero, i.size, i.bytes)) = some (some (.string .empty), 1, 16) := by kernel_rfl
theorem infoL_Concept : (Try.prog.info? 38).map (fun i => (i.zero, i.size, i.bytes)) = some (some (.agg #[.string .empty, .string .empty, .bool false, .slice none 0 0, .slice none 0 0, .slice none 0 0]), 6, 112) := by kernel_rfl
theorem infoL_Rule : (Try.prog.info? 63).map (fun i => (i.zero, i.size, i.bytes)) = some (some (.agg #[.string .empty, .string .empty, .bool false, .string .empty]), 4, 56) := by kernel_rfl
theorem infoL_Equation : (Try.prog.info? 53).map (fun i => (i.zero, i.size, i.bytes)) = some (some (.agg #[.string .empty, .slice none 0 0, .slice none 0 0]), 3, 64) := by kernel_rfl
theorem infoL_Editor : (Try.prog.info? 56).map (fun i => (i.zero, i.size, i.bytes)) = some (some (.agg #[.string .empty, .slice none 0 0]), 2, 40) := by kernel_rfl
theorem infoL_Template : (Try.prog.info? 59).map (fun i => (i.zero, i.size, i.bytes)) = some (some (.agg #[.string .empty, .slice none 0 0]), 2, 40) := by kernel_rfl
def Editor.Own (w : World) (base : Nat) (x : List Value) (d : Editor) : Prop := ∃ v, x = [.string d.concept, v] ∧ Own1 w base 74 3 Cell.Is v d.cells ∧ Fit d.cells.length 40 ∧ d.concept.size ≤ maxLen
def Template.Own (w : World) (base : Nat) (x : List Value) (d : Template) : Prop := ∃ v, x = [.string d.concept, v] ∧ Own1 w base 78 3 Cell.Is v d.pieces ∧ Fit d.pieces.length 40 ∧ d.concept.size ≤ maxLen
def Equation.Own (w : World) (base : Nat) (x : List Value) (d : Equation) : Prop := ∃ v1 v2, x = [.string d.concept, v1, v2] ∧ Own1 w base 68 4 (Side.Own w base) v1 d.left ∧ Own1 w base 68 4 (Side.Own w base) v2 d.right ∧ Fit d.left.length 56 ∧ Fit d.right.length 56 ∧ d.concept.size ≤ maxLen
def Language.Own (w : World) (base : Nat) (x : List Value) (d : Language) : Prop :=
  ∃ v1 v2 v3 v4 v5 v6, x = [.string d.name, .int .i64 d.version, v1, v2, v3, v4, v5, v6] ∧ Own1 w base 9 1 IsText v1 d.uses ∧ Own1 w base 38 6 (Concept.Own w base) v2 d.concepts ∧ Own1 w base 63 4 Rule.Is v3 d.rules ∧
    Own1 w base 53 3 (Equation.Own w base) v4 d.equations ∧ Own1 w base 56 2 (Editor.Own w base) v5 d.editors ∧ Own1 w base 59 2 (Template.Own w base) v6 d.templates ∧
    (Fit d.uses.length 16 ∧ Fit d.concepts.length 112 ∧ Fit d.rules.length 56 ∧ Fit d.equations.length 64 ∧ Fit d.editors.length 40 ∧ Fit d.templates.length 40) ∧ d.name.size ≤ maxLen ∧ (Lit.int .i64 d.version).wf = true

section
variable {w w' : World} {base : Nat} {bad : TypeId → Bool} {x : List Value}
theorem Side.Own.stays {d : Side} (h : Side.Own w base x d) (s : Stays w w' base bad) (h1 : bad 3 = false) : Side.Own w' base x d := by
  obtain ⟨v, e, r, q⟩ := h
  exact ⟨v, e, s _ _ _ _ _ _ h1 r, q⟩
theorem Concept.Own.stays {d : Concept} (h : Concept.Own w base x d) (s : Stays w w' base bad) (h1 : bad 45 = false) (h2 : bad 47 = false) (h3 : bad 49 = false) : Concept.Own w' base x d := by
  obtain ⟨v1, v2, v3, e, r1, r2, r3, q⟩ := h
  exact ⟨v1, v2, v3, e, s _ _ _ _ _ _ h1 r1, s _ _ _ _ _ _ h2 r2, s _ _ _ _ _ _ h3 r3, q⟩
theorem Equation.Own.stays {d : Equation} (h : Equation.Own w base x d) (s : Stays w w' base bad) (h1 : bad 3 = false) (h2 : bad 68 = false) : Equation.Own w' base x d := by
  obtain ⟨v1, v2, e, r1, r2, q⟩ := h
  exact ⟨v1, v2, e, s _ _ _ _ _ _ h2 (r1.imp fun _ _ r => r.stays s h1), s _ _ _ _ _ _ h2 (r2.imp fun _ _ r => r.stays s h1), q⟩
theorem Editor.Own.stays {d : Editor} (h : Editor.Own w base x d) (s : Stays w w' base bad) (h1 : bad 74 = false) : Editor.Own w' base x d := by
  obtain ⟨v, e, r, q⟩ := h
  exact ⟨v, e, s _ _ _ _ _ _ h1 r, q⟩
theorem Template.Own.stays {d : Template} (h : Template.Own w base x d) (s : Stays w w' base bad) (h1 : bad 78 = false) : Template.Own w' base x d := by
  obtain ⟨v, e, r, q⟩ := h
  exact ⟨v, e, s _ _ _ _ _ _ h1 r, q⟩
theorem Concept.Own.mono {base' : Nat} {d : Concept} (h : Concept.Own w base x d) (hb : base' ≤ base) : Concept.Own w base' x d := by
  obtain ⟨v1, v2, v3, e, r1, r2, r3, q⟩ := h
  exact ⟨v1, v2, v3, e, r1.mono hb, r2.mono hb, r3.mono hb, q⟩
theorem Side.Own.mono {base' : Nat} {d : Side} (h : Side.Own w base x d) (hb : base' ≤ base) : Side.Own w base' x d := by
  obtain ⟨v, e, r, q⟩ := h
  exact ⟨v, e, r.mono hb, q⟩
/-- from a row of the call's own to what any reader may take -/
theorem Side.Own.is {d : Side} (h : Side.Own w base x d) : Side.Is w w.heap.size x d := by
  obtain ⟨v, e, r, q⟩ := h
  exact ⟨v, e, r.read (by omega), q⟩
theorem Concept.Own.is {d : Concept} (h : Concept.Own w base x d) : Concept.Is w w.heap.size x d := by
  obtain ⟨v1, v2, v3, e, r1, r2, r3, q⟩ := h
  exact ⟨v1, v2, v3, e, r1.read (by omega), r2.read (by omega), r3.read (by omega), q⟩
theorem Equation.Own.is {d : Equation} (h : Equation.Own w base x d) : Equation.Is w w.heap.size x d := by
  obtain ⟨v1, v2, e, r1, r2, q⟩ := h
  exact ⟨v1, v2, e, (r1.imp fun _ _ r => r.is).read (by omega), (r2.imp fun _ _ r => r.is).read (by omega), q⟩
theorem Editor.Own.is {d : Editor} (h : Editor.Own w base x d) : Editor.Is w w.heap.size x d := by
  obtain ⟨v, e, r, q⟩ := h
  exact ⟨v, e, r.read (by omega), q⟩
theorem Template.Own.is {d : Template} (h : Template.Own w base x d) : Template.Is w w.heap.size x d := by
  obtain ⟨v, e, r, q⟩ := h
  exact ⟨v, e, r.read (by omega), q⟩
theorem Language.Own.is {d : Language} (h : Language.Own w base x d) : Language.Is w w.heap.size x d := by
  obtain ⟨v1, v2, v3, v4, v5, v6, e, r1, r2, r3, r4, r5, r6, q⟩ := h
  exact ⟨v1, v2, v3, v4, v5, v6, e, r1.read (by omega), (r2.imp fun _ _ r => r.is).read (by omega), r3.read (by omega), (r4.imp fun _ _ r => r.is).read (by omega), (r5.imp fun _ _ r => r.is).read (by omega), (r6.imp fun _ _ r => r.is).read (by omega), q⟩
end

end Go.Proofs.Ytdhljfblkidohaa
