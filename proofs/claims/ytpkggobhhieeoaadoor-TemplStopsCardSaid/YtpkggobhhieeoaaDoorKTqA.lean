/- - -/
import Derived.Test.YtpkggobhhieeoaaDoorKM8
set_option maxRecDepth 100000
set_option maxHeartbeats 32000000
set_option linter.unusedSimpArgs false
set_option linter.unusedVariables false
namespace Go.Proofs.YtpkggobhhieeoaaDoor
open Go.RowKit Go.ChangeShapes Go.WideShapes Go.Deep
structure Cell where
  kind : Int
  text : ByteArray
  mark : ByteArray
  deriving DecidableEq
def Cell.cells (d : Cell) : List Value := [.int .i64 d.kind, .string d.text, .string d.mark]
def Cell.ok (d : Cell) : Prop := (Lit.int .i64 d.kind).wf = true ∧ d.text.size ≤ maxLen ∧ d.mark.size ≤ maxLen
def Cell.Is (x : List Value) (d : Cell) : Prop := x = d.cells ∧ d.ok
def Pc.cell (p : Pc) : Cell := ⟨p.kind, txt p.text, txt p.mark⟩
theorem Pc.toCell {x : List Value} {p : Pc} (h : Pc.Is x p) : Cell.Is x p.cell := by
  obtain ⟨rfl, h1, h2, h3, h4, h5⟩ := h
  exact ⟨rfl, h5, by show (txt p.text).size ≤ maxLen; rw [txt_size]; unfold maxLen; omega, by show (txt p.mark).size ≤ maxLen; rw [txt_size]; unfold maxLen; omega⟩
theorem SlR.cells {X : World} {B : Nat} {v : Value} {l : List Pc} (h : SlR X B 3 Pc.Is v l) : SlR X B 3 Cell.Is v (l.map Pc.cell) := by
  obtain ⟨a, c, rfl, h1, h2, h3⟩ := h
  refine ⟨a, c, by rw [List.length_map], by rw [List.length_map]; exact h1, h2, fun hl => ?_⟩
  rw [List.length_map] at hl
  obtain ⟨b, off, hb, hlt, hat⟩ := h3 hl
  refine ⟨b, off, hb, hlt, fun i y hy => ?_⟩
  rw [List.getElem?_map] at hy
  cases he : l[i]? with
  | none => rw [he] at hy; cases hy
  | some p =>
    rw [he] at hy
    injection hy with hy
    subst hy
    obtain ⟨x, hx, hR, hc⟩ := hat i p he
    exact ⟨x, hx, Pc.toCell hR, hc⟩
end Go.Proofs.YtpkggobhhieeoaaDoor
