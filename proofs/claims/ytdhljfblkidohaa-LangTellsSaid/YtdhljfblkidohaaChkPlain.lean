/- What is wrong with a definition, as plain functions (P4.1, P4.4). -/
import Derived.Test.YtdhljfblkidohaaApi
import Derived.Test.YtdhljfblkidohaaName
namespace Go.Proofs.Ytdhljfblkidohaa
set_option linter.unusedSimpArgs false
set_option linter.unusedVariables false

/-- is a text a name? -/
def okName (s : ByteArray) : Bool := rightN (bs s)
/-- the first of a list that is wrong: its place, its part, its error; 'most' may be -/
def eachE {α : Type} (most : Nat) (f : Nat → α → Nat × Nat) : Nat → List α → Option (Nat × Nat × Nat)
  | _, [] => none
  | k, x :: t => if most ≤ k then some (k, 0, 4) else if (f k x).2 ≠ 0 then some (k, (f k x).1, (f k x).2) else eachE most f (k + 1) t
def useE (l : Language) (i : Nat) (s : ByteArray) : Nat × Nat :=
  if okName s = false then (0, 2) else if s = l.name then (0, 40) else if (l.uses.take i).any (fun x => decide (x = s)) then (0, 40) else (0, 0)
/-- the first part that is wrong -/
def firstE {α : Type} (f : Nat → α → Nat) : Nat → List α → Option (Nat × Nat)
  | _, [] => none
  | k, x :: t => if f k x ≠ 0 then some (k, f k x) else firstE f (k + 1) t
def propE (l : List PropDef) (k : Nat) (p : PropDef) : Nat :=
  if 32 ≤ k then 4 else if okName p.name = false then 2 else if (l.take k).any (fun x => decide (x.name = p.name)) then 40 else if p.type < 1 ∨ 4 < p.type then 41 else 0
def kidE (l : List KidDef) (k : Nat) (p : KidDef) : Nat :=
  if 32 ≤ k then 4 else if okName p.role = false ∨ okName p.concept = false then 2 else if (l.take k).any (fun x => decide (x.role = p.role)) then 40
  else if (p.min ≠ 0 ∧ p.min ≠ 1) ∨ (p.max ≠ 0 ∧ p.max ≠ 1) then 44 else 0
def refE (l : List RefDef) (k : Nat) (p : RefDef) : Nat :=
  if 32 ≤ k then 4 else if okName p.role = false ∨ okName p.concept = false then 2 else if (l.take k).any (fun x => decide (x.role = p.role)) then 40 else 0
/-- the parts of a concept -/
def partsE (c : Concept) : Nat × Nat :=
  match firstE (propE c.props) 0 c.props with
  | some (k, e) => (1 + k, e)
  | none => match firstE (kidE c.kids) 0 c.kids with
    | some (k, e) => (1 + c.props.length + k, e)
    | none => match firstE (refE c.refs) 0 c.refs with
      | some (k, e) => (1 + c.props.length + c.kids.length + k, e)
      | none => (0, 0)
def conceptA (ahead : List Concept) (c : Concept) : Nat × Nat :=
  if okName c.name = false then (0, 2) else if ahead.any (fun x => decide (x.name = c.name)) then (0, 40)
  else if c.super.size ≠ 0 ∧ okName c.super = false then (0, 2) else if c.super = c.name then (0, 43) else partsE c
def conceptE (l : List Concept) (i : Nat) (c : Concept) : Nat × Nat := conceptA (l.take i) c
def ruleE (l : List Rule) (i : Nat) (r : Rule) : Nat × Nat :=
  if okName r.concept = false ∨ okName r.name = false then (0, 2)
  else if (l.take i).any (fun x => decide (x.concept = r.concept) && decide (x.name = r.name) && decide (x.scope = r.scope)) then (0, 40)
  else if 4096 < r.expr.size then (0, 3) else (0, 0)
/-- what is still to be met stands on a stack, the next one on top -/
def treeR (l : List Side) : Nat → List Int → Nat → Bool
  | _, [], m => decide (m = l.length)
  | 0, _ :: _, _ => false
  | f + 1, t :: rest, m => if t = (m : Int) then match l[m]? with
    | some s => treeR l f (s.args ++ rest) (m + 1)
    | none => false
    else false
def treeB (l : List Side) : Bool := treeR l (l.length + 1) [0] 0
def badSide (s : Side) : Bool :=
  decide (s.kind < 1 ∨ 5 < s.kind) || (if s.kind = 1 then decide (s.name.size ≠ 0) else !okName s.name) || decide (s.num < 0) || (decide (s.num ≠ 0) && decide (s.kind ≠ 2)) || (decide (s.args.length ≠ 0) && decide (s.kind ≠ 4))
def sideE (l : List Side) : Nat := if 64 < l.length then 4 else if l.any badSide then 2 else if treeB l = false then 2 else 0
def equationE (_ : Nat) (q : Equation) : Nat × Nat :=
  if okName q.concept = false then (0, 2) else if sideE q.left ≠ 0 then (1, sideE q.left) else if sideE q.right ≠ 0 then (2, sideE q.right) else (0, 0)
/-- how long a cell's texts are, as the programs reckon it (a sum that is too great wraps in both) -/
def sumC (c : Cell) : Int := Go.RowKit.wrap64 ((c.text.size : Int) + (c.mark.size : Int))
def cellE (most : Int) (c : Cell) : Nat := if c.kind < 1 ∨ most < c.kind then 2 else if 4096 < sumC c then 3 else 0
def rowE (most : Int) (concept : ByteArray) (had : Bool) (l : List Cell) : Nat × Nat :=
  if okName concept = false then (0, 2) else if had then (0, 40) else if 64 < l.length then (65, 4)
  else match firstE (fun _ c => cellE most c) 0 l with
    | some (k, e) => (k + 1, e)
    | none => (0, 0)
def editorE (l : List Editor) (i : Nat) (x : Editor) : Nat × Nat := rowE 6 x.concept ((l.take i).any (fun y => decide (y.concept = x.concept))) x.cells
def templateE (l : List Template) (i : Nat) (x : Template) : Nat × Nat := rowE 5 x.concept ((l.take i).any (fun y => decide (y.concept = x.concept))) x.pieces
/-- a fault: the list, the place, the part, the error -/
structure Flt where
  list : Nat
  at_ : Nat
  part : Nat
  err : Nat
  deriving DecidableEq
def fltOf (n : Nat) : Nat × Nat × Nat → Flt := fun (k, p, e) => ⟨n, k, p, e⟩
/-- P4.1 -/
def checkE (l : Language) : Flt :=
  if okName l.name = false then ⟨0, 0, 0, 2⟩ else if l.version < 1 then ⟨0, 1, 0, 2⟩
  else match eachE 8 (useE l) 0 l.uses with
  | some x => fltOf 1 x
  | none => match eachE 128 (conceptE l.concepts) 0 l.concepts with
    | some x => fltOf 2 x
    | none => match eachE 256 (ruleE l.rules) 0 l.rules with
      | some x => fltOf 3 x
      | none => match eachE 256 equationE 0 l.equations with
        | some x => fltOf 4 x
        | none => match eachE 256 (editorE l.editors) 0 l.editors with
          | some x => fltOf 5 x
          | none => match eachE 256 (templateE l.templates) 0 l.templates with
            | some x => fltOf 6 x
            | none => ⟨0, 0, 0, 0⟩

/-! words for a walk through a list -/
theorem eachE_step {α : Type} {most : Nat} {f : Nat → α → Nat × Nat} {l : List α} {k : Nat} {x : α} (h : l[k]? = some x) :
    eachE most f k (l.drop k) = if most ≤ k then some (k, 0, 4) else if (f k x).2 ≠ 0 then some (k, (f k x).1, (f k x).2) else eachE most f (k + 1) (l.drop (k + 1)) := by
  have hk := (List.getElem?_eq_some_iff.1 h).1
  rw [List.drop_eq_getElem_cons hk, (List.getElem?_eq_some_iff.1 h).2]
  rfl
theorem eachE_end {α : Type} {most : Nat} {f : Nat → α → Nat × Nat} {l : List α} {k : Nat} (h : l.length ≤ k) : eachE most f k (l.drop k) = none := by
  rw [List.drop_of_length_le h]; rfl
theorem firstE_step {α : Type} {f : Nat → α → Nat} {l : List α} {k : Nat} {x : α} (h : l[k]? = some x) :
    firstE f k (l.drop k) = if f k x ≠ 0 then some (k, f k x) else firstE f (k + 1) (l.drop (k + 1)) := by
  have hk := (List.getElem?_eq_some_iff.1 h).1
  rw [List.drop_eq_getElem_cons hk, (List.getElem?_eq_some_iff.1 h).2]
  rfl
theorem firstE_end {α : Type} {f : Nat → α → Nat} {l : List α} {k : Nat} (h : l.length ≤ k) : firstE f k (l.drop k) = none := by
  rw [List.drop_of_length_le h]; rfl
/-- as many are to be met as there are on the stack -/
theorem treeR_few {l : List Side} : ∀ (f : Nat) (st : List Int) (m : Nat), l.length < st.length + m → treeR l f st m = false := by
  intro f
  induction f with
  | zero =>
    intro st m h
    cases st with
    | nil => simp at h; simp [treeR]; omega
    | cons t rest => rfl
  | succ f ih =>
    intro st m h
    cases st with
    | nil => simp at h; simp [treeR]; omega
    | cons t rest =>
      simp only [treeR]
      split
      · split
        · exact ih _ _ (by simp at h ⊢; omega)
        · rfl
      · rfl
/-- more rounds than needed change nothing -/
theorem treeR_more {l : List Side} : ∀ (f g : Nat) (st : List Int) (m : Nat), l.length < f + m → l.length < g + m → treeR l f st m = treeR l g st m := by
  intro f
  induction f with
  | zero =>
    intro g st m h h'
    cases st with
    | nil => cases g <;> simp [treeR]
    | cons t rest =>
      cases g with
      | zero => rfl
      | succ g =>
        simp only [treeR]
        have : l[m]? = none := List.getElem?_eq_none (by omega)
        rw [this]
        split <;> rfl
  | succ f ih =>
    intro g st m h h'
    cases st with
    | nil => cases g <;> simp [treeR]
    | cons t rest =>
      cases g with
      | zero =>
        simp only [treeR]
        have : l[m]? = none := List.getElem?_eq_none (by omega)
        rw [this]
        split <;> rfl
      | succ g =>
        simp only [treeR]
        split
        · split
          · exact ih _ _ _ (by omega) (by omega)
          · rfl
        · rfl
/-- the stack with just so many rounds as can be needed -/
def treeS (l : List Side) (st : List Int) (m : Nat) : Bool := treeR l (l.length + 1 - m) st m
theorem treeS_nil (l : List Side) (m : Nat) : treeS l [] m = decide (m = l.length) := by unfold treeS; cases h : l.length + 1 - m <;> rfl
theorem treeS_bad {l : List Side} {t : Int} {rest : List Int} {m : Nat} (h : t ≠ (m : Int)) : treeS l (t :: rest) m = false := by
  unfold treeS
  cases hf : l.length + 1 - m with
  | zero => rfl
  | succ f => simp [treeR, h]
theorem treeS_out {l : List Side} {t : Int} {rest : List Int} {m : Nat} (h : l.length ≤ m) : treeS l (t :: rest) m = false := by
  unfold treeS
  cases hf : l.length + 1 - m with
  | zero => rfl
  | succ f =>
    simp only [treeR]
    rw [List.getElem?_eq_none h]
    split <;> rfl
theorem treeS_step {l : List Side} {rest : List Int} {m : Nat} {s : Side} (h : l[m]? = some s) : treeS l ((m : Int) :: rest) m = treeS l (s.args ++ rest) (m + 1) := by
  have hm := (List.getElem?_eq_some_iff.1 h).1
  unfold treeS
  rw [show l.length + 1 - m = (l.length + 1 - (m + 1)) + 1 by omega]
  simp [treeR, h]
theorem treeS_few {l : List Side} {st : List Int} {m : Nat} (h : l.length < st.length + m) : treeS l st m = false := treeR_few _ _ _ h
theorem treeB_eq (l : List Side) : treeB l = treeS l [0] 0 := rfl
end Go.Proofs.Ytdhljfblkidohaa
