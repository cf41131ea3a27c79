/- The data of package api as plain Lean types, and how their cells read. -/
import Derived.Test.YtdkoafmgenbkbaaDoorBase
namespace Go.Proofs.YtdkoafmgenbkbaaDoor
set_option linter.unusedSimpArgs false
set_option linter.unusedVariables false
open Go.RowKit Go.ChangeShapes Go.WideShapes Go.Deep

structure PropDef where
  name : ByteArray
  type : Int
  deriving DecidableEq
structure KidDef where
  role : ByteArray
  concept : ByteArray
  min : Int
  max : Int
  deriving DecidableEq
structure RefDef where
  role : ByteArray
  concept : ByteArray
  need : Bool
  deriving DecidableEq
structure Concept where
  name : ByteArray
  super : ByteArray
  abs : Bool
  props : List PropDef
  kids : List KidDef
  refs : List RefDef
  deriving DecidableEq
structure Rule where
  concept : ByteArray
  name : ByteArray
  scope : Bool
  expr : ByteArray
  deriving DecidableEq
structure Side where
  kind : Int
  name : ByteArray
  num : Int
  args : List Int
  deriving DecidableEq
structure Equation where
  concept : ByteArray
  left : List Side
  right : List Side
  deriving DecidableEq
structure Cell where
  kind : Int
  text : ByteArray
  mark : ByteArray
  deriving DecidableEq
structure Editor where
  concept : ByteArray
  cells : List Cell
  deriving DecidableEq
structure Template where
  concept : ByteArray
  pieces : List Cell
  deriving DecidableEq
structure Language where
  name : ByteArray
  version : Int
  uses : List ByteArray
  concepts : List Concept
  rules : List Rule
  equations : List Equation
  editors : List Editor
  templates : List Template
  deriving DecidableEq
def PropDef.cells (d : PropDef) : List Value := [.string d.name, .int .i64 d.type]
def PropDef.ok (d : PropDef) : Prop := (Lit.int .i64 d.type).wf = true ∧ d.name.size ≤ maxLen
def PropDef.Is (x : List Value) (d : PropDef) : Prop := x = d.cells ∧ d.ok
def KidDef.cells (d : KidDef) : List Value := [.string d.role, .string d.concept, .int .i64 d.min, .int .i64 d.max]
def KidDef.ok (d : KidDef) : Prop := (Lit.int .i64 d.min).wf = true ∧ (Lit.int .i64 d.max).wf = true ∧ d.role.size ≤ maxLen ∧ d.concept.size ≤ maxLen
def KidDef.Is (x : List Value) (d : KidDef) : Prop := x = d.cells ∧ d.ok
def RefDef.cells (d : RefDef) : List Value := [.string d.role, .string d.concept, .bool d.need]
def RefDef.ok (d : RefDef) : Prop := d.role.size ≤ maxLen ∧ d.concept.size ≤ maxLen
def RefDef.Is (x : List Value) (d : RefDef) : Prop := x = d.cells ∧ d.ok
def Rule.cells (d : Rule) : List Value := [.string d.concept, .string d.name, .bool d.scope, .string d.expr]
def Rule.ok (d : Rule) : Prop := d.concept.size ≤ maxLen ∧ d.name.size ≤ maxLen ∧ d.expr.size ≤ maxLen
def Rule.Is (x : List Value) (d : Rule) : Prop := x = d.cells ∧ d.ok
def Cell.cells (d : Cell) : List Value := [.int .i64 d.kind, .string d.text, .string d.mark]
def Cell.ok (d : Cell) : Prop := (Lit.int .i64 d.kind).wf = true ∧ d.text.size ≤ maxLen ∧ d.mark.size ≤ maxLen
def Cell.Is (x : List Value) (d : Cell) : Prop := x = d.cells ∧ d.ok

def IsText (x : List Value) (s : ByteArray) : Prop := x = [.string s] ∧ s.size ≤ maxLen
def IsInt (x : List Value) (n : Int) : Prop := x = [.int .i64 n] ∧ (Lit.int .i64 n).wf = true

/-- the most elements that a list that came in can have, of so many bytes each (the reach) -/
def Fit (n bytes : Nat) : Prop := n * bytes ≤ 140737488355328

def Side.Is (w : World) (B : Nat) (x : List Value) (d : Side) : Prop :=
  ∃ v, x = [.int .i64 d.kind, .string d.name, .int .i64 d.num, v] ∧ SlR w B 1 IsInt v d.args ∧ Fit d.args.length 8 ∧ (Lit.int .i64 d.kind).wf = true ∧ d.name.size ≤ maxLen ∧ (Lit.int .i64 d.num).wf = true
def Concept.Is (w : World) (B : Nat) (x : List Value) (d : Concept) : Prop :=
  ∃ v1 v2 v3, x = [.string d.name, .string d.super, .bool d.abs, v1, v2, v3] ∧ SlR w B 2 PropDef.Is v1 d.props ∧ SlR w B 4 KidDef.Is v2 d.kids ∧ SlR w B 3 RefDef.Is v3 d.refs ∧
    Fit d.props.length 24 ∧ Fit d.kids.length 48 ∧ Fit d.refs.length 40 ∧ d.name.size ≤ maxLen ∧ d.super.size ≤ maxLen
def Equation.Is (w : World) (B : Nat) (x : List Value) (d : Equation) : Prop :=
  ∃ v1 v2, x = [.string d.concept, v1, v2] ∧ SlR w B 4 (Side.Is w B) v1 d.left ∧ SlR w B 4 (Side.Is w B) v2 d.right ∧ Fit d.left.length 56 ∧ Fit d.right.length 56 ∧ d.concept.size ≤ maxLen
def Editor.Is (w : World) (B : Nat) (x : List Value) (d : Editor) : Prop :=
  ∃ v, x = [.string d.concept, v] ∧ SlR w B 3 Cell.Is v d.cells ∧ Fit d.cells.length 40 ∧ d.concept.size ≤ maxLen
def Template.Is (w : World) (B : Nat) (x : List Value) (d : Template) : Prop :=
  ∃ v, x = [.string d.concept, v] ∧ SlR w B 3 Cell.Is v d.pieces ∧ Fit d.pieces.length 40 ∧ d.concept.size ≤ maxLen
/-- the cells of a definition -/
def Language.Is (w : World) (B : Nat) (x : List Value) (d : Language) : Prop :=
  ∃ v1 v2 v3 v4 v5 v6, x = [.string d.name, .int .i64 d.version, v1, v2, v3, v4, v5, v6] ∧ SlR w B 1 IsText v1 d.uses ∧ SlR w B 6 (Concept.Is w B) v2 d.concepts ∧ SlR w B 4 Rule.Is v3 d.rules ∧
    SlR w B 3 (Equation.Is w B) v4 d.equations ∧ SlR w B 2 (Editor.Is w B) v5 d.editors ∧ SlR w B 2 (Template.Is w B) v6 d.templates ∧
    (Fit d.uses.length 16 ∧ Fit d.concepts.length 112 ∧ Fit d.rules.length 56 ∧ Fit d.equations.length 64 ∧ Fit d.editors.length 40 ∧ Fit d.templates.length 40) ∧ d.name.size ≤ maxLen ∧ (Lit.int .i64 d.version).wf = true

section
variable {w w' : World} {B B' : Nat} {x : List Value}
theorem Side.Is.keep {d : Side} (h : Side.Is w B x d) (hk : ∀ p : Addr, p.block < B → w'.cell? p = w.cell? p) (hB : B ≤ B') : Side.Is w' B' x d := by
  obtain ⟨v, h0, h1, h2⟩ := h
  exact ⟨v, h0, h1.keep hk (fun _ _ r => r) hB, h2⟩
theorem Concept.Is.keep {d : Concept} (h : Concept.Is w B x d) (hk : ∀ p : Addr, p.block < B → w'.cell? p = w.cell? p) (hB : B ≤ B') : Concept.Is w' B' x d := by
  obtain ⟨v1, v2, v3, h0, h1, h2, h3, h4⟩ := h
  exact ⟨v1, v2, v3, h0, h1.keep hk (fun _ _ r => r) hB, h2.keep hk (fun _ _ r => r) hB, h3.keep hk (fun _ _ r => r) hB, h4⟩
theorem Equation.Is.keep {d : Equation} (h : Equation.Is w B x d) (hk : ∀ p : Addr, p.block < B → w'.cell? p = w.cell? p) (hB : B ≤ B') : Equation.Is w' B' x d := by
  obtain ⟨v1, v2, h0, h1, h2, h3⟩ := h
  exact ⟨v1, v2, h0, h1.keep hk (fun _ _ r => r.keep hk hB) hB, h2.keep hk (fun _ _ r => r.keep hk hB) hB, h3⟩
theorem Editor.Is.keep {d : Editor} (h : Editor.Is w B x d) (hk : ∀ p : Addr, p.block < B → w'.cell? p = w.cell? p) (hB : B ≤ B') : Editor.Is w' B' x d := by
  obtain ⟨v, h0, h1, h2⟩ := h
  exact ⟨v, h0, h1.keep hk (fun _ _ r => r) hB, h2⟩
theorem Template.Is.keep {d : Template} (h : Template.Is w B x d) (hk : ∀ p : Addr, p.block < B → w'.cell? p = w.cell? p) (hB : B ≤ B') : Template.Is w' B' x d := by
  obtain ⟨v, h0, h1, h2⟩ := h
  exact ⟨v, h0, h1.keep hk (fun _ _ r => r) hB, h2⟩
theorem Language.Is.keep {d : Language} (h : Language.Is w B x d) (hk : ∀ p : Addr, p.block < B → w'.cell? p = w.cell? p) (hB : B ≤ B') : Language.Is w' B' x d := by
  obtain ⟨v1, v2, v3, v4, v5, v6, h0, h1, h2, h3, h4, h5, h6, h7⟩ := h
  exact ⟨v1, v2, v3, v4, v5, v6, h0, h1.keep hk (fun _ _ r => r) hB, h2.keep hk (fun _ _ r => r.keep hk hB) hB, h3.keep hk (fun _ _ r => r) hB, h4.keep hk (fun _ _ r => r.keep hk hB) hB, h5.keep hk (fun _ _ r => r.keep hk hB) hB, h6.keep hk (fun _ _ r => r.keep hk hB) hB, h7⟩
end

theorem Side.Is.shape {w : World} {B : Nat} (x : List Value) (d : Side) (h : Side.Is w B x d) : ∃ (e0 : Int) (e1 : ByteArray) (e2 : Int) (e3 : Option Addr) (n3 c3 : Nat), x = [.int .i64 e0, .string e1, .int .i64 e2, .slice e3 n3 c3] := by
  obtain ⟨v, rfl, h1, _⟩ := h
  obtain ⟨a, n, c, rfl⟩ := h1.form'
  exact ⟨_, _, _, _, _, _, rfl⟩
theorem Concept.Is.shape {w : World} {B : Nat} (x : List Value) (d : Concept) (h : Concept.Is w B x d) : ∃ (e0 : ByteArray) (e1 : ByteArray) (e2 : Bool) (e3 : Option Addr) (n3 c3 : Nat) (e4 : Option Addr) (n4 c4 : Nat) (e5 : Option Addr) (n5 c5 : Nat), x = [.string e0, .string e1, .bool e2, .slice e3 n3 c3, .slice e4 n4 c4, .slice e5 n5 c5] := by
  obtain ⟨v1, v2, v3, rfl, h1, h2, h3, _⟩ := h
  obtain ⟨_, _, _, rfl⟩ := h1.form'
  obtain ⟨_, _, _, rfl⟩ := h2.form'
  obtain ⟨_, _, _, rfl⟩ := h3.form'
  exact ⟨_, _, _, _, _, _, _, _, _, _, _, _, rfl⟩
theorem Equation.Is.shape {w : World} {B : Nat} (x : List Value) (d : Equation) (h : Equation.Is w B x d) : ∃ (e0 : ByteArray) (e1 : Option Addr) (n1 c1 : Nat) (e2 : Option Addr) (n2 c2 : Nat), x = [.string e0, .slice e1 n1 c1, .slice e2 n2 c2] := by
  obtain ⟨v1, v2, rfl, h1, h2, _⟩ := h
  obtain ⟨_, _, _, rfl⟩ := h1.form'
  obtain ⟨_, _, _, rfl⟩ := h2.form'
  exact ⟨_, _, _, _, _, _, _, rfl⟩
theorem Editor.Is.shape {w : World} {B : Nat} (x : List Value) (d : Editor) (h : Editor.Is w B x d) : ∃ (e0 : ByteArray) (e1 : Option Addr) (n1 c1 : Nat), x = [.string e0, .slice e1 n1 c1] := by
  obtain ⟨v1, rfl, h1, _⟩ := h
  obtain ⟨_, _, _, rfl⟩ := h1.form'
  exact ⟨_, _, _, _, rfl⟩
theorem Template.Is.shape {w : World} {B : Nat} (x : List Value) (d : Template) (h : Template.Is w B x d) : ∃ (e0 : ByteArray) (e1 : Option Addr) (n1 c1 : Nat), x = [.string e0, .slice e1 n1 c1] := by
  obtain ⟨v1, rfl, h1, _⟩ := h
  obtain ⟨_, _, _, rfl⟩ := h1.form'
  exact ⟨_, _, _, _, rfl⟩
end Go.Proofs.YtdkoafmgenbkbaaDoor
