/- What the walks of LangHeals have in common. -/
import Derived.Test.YtdhljfblkidohaaGreatLittle
import Derived.Test.YtdhljfblkidohaaGreatHealPlain
import Derived.Test.YtdhljfblkidohaaGreatCheck
import Derived.Test.YtdhljfblkidohaaGreatGr
import Derived.Test.YtdhljfblkidohaaGreatTn2
import Derived.Test.YtdhljfblkidohaaGreatOpen
import Derived.StillTailTactics
import Derived.Deep.RegionHeld3
import Derived.Deep.RegionLaw
import Derived.Deep.CutRange
import Derived.BigQuiet
namespace Go.Proofs.YtdhljfblkidohaaGreat
set_option linter.unusedSimpArgs false
set_option linter.unusedVariables false
open Go.RowKit

theorem Language.Is.shape {w : World} {B : Nat} (x : List Value) (d : Language) (h : Language.Is w B x d) : ∃ (e0 : ByteArray) (e1 : Int) (e2 : Option Addr) (en2 ec2 : Nat) (e3 : Option Addr) (en3 ec3 : Nat) (e4 : Option Addr) (en4 ec4 : Nat) (e5 : Option Addr) (en5 ec5 : Nat) (e6 : Option Addr) (en6 ec6 : Nat) (e7 : Option Addr) (en7 ec7 : Nat), x = [.string e0, .int .i64 e1, .slice e2 en2 ec2, .slice e3 en3 ec3, .slice e4 en4 ec4, .slice e5 en5 ec5, .slice e6 en6 ec6, .slice e7 en7 ec7] := by
  obtain ⟨v2, v3, v4, v5, v6, v7, rfl, h2, h3, h4, h5, h6, h7, _⟩ := h
  obtain ⟨_, _, _, rfl⟩ := h2.form'
  obtain ⟨_, _, _, rfl⟩ := h3.form'
  obtain ⟨_, _, _, rfl⟩ := h4.form'
  obtain ⟨_, _, _, rfl⟩ := h5.form'
  obtain ⟨_, _, _, rfl⟩ := h6.form'
  obtain ⟨_, _, _, rfl⟩ := h7.form'
  exact ⟨_, _, _, _, _, _, _, _, _, _, _, _, _, _, _, _, _, _, _, _, rfl⟩
theorem flt_neq {f : Flt} (h : ¬ f = ⟨0, 0, 0, 0⟩) (W : World) : (binOp .neq 34 (fltR f) (fltV 0 0 0 0)).run Tryz.prog W = .ok (.bool true) W := by
  obtain ⟨l, a, p, e⟩ := f
  simp only [Flt.mk.injEq] at h
  go_simp
  first
    | (simp [h]; done)
    | (repeat' split
       all_goals simp_all)
/-- the lists' lengths are those of their slices -/
theorem lens_of {w : World} {B : Nat} {e0 : ByteArray} {e1 : Int} {e2 : Option Addr} {en2 ec2 : Nat} {e3 : Option Addr} {en3 ec3 : Nat} {e4 : Option Addr} {en4 ec4 : Nat} {e5 : Option Addr} {en5 ec5 : Nat} {e6 : Option Addr} {en6 ec6 : Nat} {e7 : Option Addr} {en7 ec7 : Nat} {d : Language} (h : Language.Is w B [.string e0, .int .i64 e1, .slice e2 en2 ec2, .slice e3 en3 ec3, .slice e4 en4 ec4, .slice e5 en5 ec5, .slice e6 en6 ec6, .slice e7 en7 ec7] d) : en2 = d.uses.length ∧ en3 = d.concepts.length ∧ en4 = d.rules.length ∧ en5 = d.equations.length ∧ en6 = d.editors.length ∧ en7 = d.templates.length ∧ en2 ≤ maxLen ∧ en3 ≤ maxLen ∧ en4 ≤ maxLen ∧ en5 ≤ maxLen ∧ en6 ≤ maxLen ∧ en7 ≤ maxLen := by
  obtain ⟨v2, v3, v4, v5, v6, v7, he, h2, h3, h4, h5, h6, h7, _⟩ := h
  injection he with _ he
  injection he with _ he
  injection he with q2 he
  subst q2
  injection he with q3 he
  subst q3
  injection he with q4 he
  subst q4
  injection he with q5 he
  subst q5
  injection he with q6 he
  subst q6
  injection he with q7 he
  subst q7
  exact ⟨h2.len, h3.len, h4.len, h5.len, h6.len, h7.len, by have := h2.caps; omega, by have := h3.caps; omega, by have := h4.caps; omega, by have := h5.caps; omega, by have := h6.caps; omega, by have := h7.caps; omega⟩
/-- what the walk knows of the boxes -/
def Boxes (w' : World) (g : Nat) (X Y : Array Value) : Prop := Blk w' g 29 X ∧ Blk w' (g + 1) 29 Y
theorem Below.of_drew {B : Nat} {a b : World} (h : Below B a.drew b) : Below B a b := ⟨h.os, h.tape, h.output, h.size, h.block⟩
theorem Boxes.alloc {w1 : World} {g : Nat} {X Y : Array Value} (h : Boxes w1 g X Y) (o : Obj) : Boxes (w1.alloc o) g X Y := ⟨h.1.alloc o, h.2.alloc o⟩
theorem Boxes.set {w1 : World} {g : Nat} {X Y : Array Value} {k i : Nat} (h : Boxes w1 g X Y) (hp : g + 1 < k) (u : Value) : Boxes (w1.setCell ⟨k, i, none⟩ u) g X Y := ⟨h.1.far (by show g ≠ k; omega) u, h.2.far (by show g + 1 ≠ k; omega) u⟩
theorem Blk.drew {w : World} {g : Nat} {t : TypeId} {cs : Array Value} (h : Blk w g t cs) : Blk w.drew g t cs := h
theorem Boxes.id_ {w1 : World} {g : Nat} {X Y : Array Value} (h : Boxes w1 g X Y) : Boxes w1 g X Y := h
theorem Blk.id_ {w1 : World} {g : Nat} {t : TypeId} {X : Array Value} (h : Blk w1 g t X) : Blk w1 g t X := h
theorem Blk.set_far {w1 : World} {g k i : Nat} {t : TypeId} {X : Array Value} (h : Blk w1 g t X) (hk : g ≠ k) (u : Value) : Blk (w1.setCell ⟨k, i, none⟩ u) g t X := h.far (p := ⟨k, i, none⟩) hk u
theorem low_id {w W : World} (h : Below w.heap.size w W) : Below w.heap.size w W := h
theorem low_alloc {w W : World} (h : Below w.heap.size w W) (o : Obj) : Below w.heap.size w (W.alloc o) := h.alloc h.size o
theorem low_set {w W : World} {k i : Nat} (h : Below w.heap.size w W) (hk : w.heap.size ≤ k) (u : Value) : Below w.heap.size w (W.setCell ⟨k, i, none⟩ u) := h.setCell (p := ⟨k, i, none⟩) hk u
theorem store7 {W : World} {g : Nat} {t : TypeId} {u0 u1 u2 u3 u4 u5 u6 : Value} (h : Blk W g t #[.int .i64 0, .int .i64 0, .int .i64 0, .int .i64 0, .int .i64 0, .int .i64 0, .int .i64 0]) :
    Blk (((((((W.setCell ⟨g, 0, none⟩ u0).setCell ⟨g, 1, none⟩ u1).setCell ⟨g, 2, none⟩ u2).setCell ⟨g, 3, none⟩ u3).setCell ⟨g, 4, none⟩ u4).setCell ⟨g, 5, none⟩ u5).setCell ⟨g, 6, none⟩ u6) g t #[u0, u1, u2, u3, u4, u5, u6] :=
  ((((((h.set_ 0 u0).set_ 1 u1).set_ 2 u2).set_ 3 u3).set_ 4 u4).set_ 5 u5).set_ 6 u6
theorem Boxes.lt {w1 : World} {g : Nat} {X Y : Array Value} (h : Boxes w1 g X Y) : g + 1 < w1.heap.size := Blk.lt h.2
theorem Boxes.below {w1 w2 : World} {g : Nat} {X Y : Array Value} (h : Boxes w1 g X Y) (hb : Below w1.heap.size w1 w2) : Boxes w2 g X Y := ⟨h.1.below hb h.1.lt, h.2.below hb h.2.lt⟩
theorem cells16 {w' : World} {g : Nat} {x0 y0 x1 y1 x2 y2 x3 y3 x4 y4 x5 y5 x6 y6 x7 y7 : Value} (h : Boxes w' g #[x0, x1, x2, x3, x4, x5, x6, x7] #[y0, y1, y2, y3, y4, y5, y6, y7]) :
    w'.cell? ⟨g, 0, none⟩ = some x0 ∧ w'.cell? ⟨g, 1, none⟩ = some x1 ∧ w'.cell? ⟨g, 2, none⟩ = some x2 ∧ w'.cell? ⟨g, 3, none⟩ = some x3 ∧ w'.cell? ⟨g, 4, none⟩ = some x4 ∧ w'.cell? ⟨g, 5, none⟩ = some x5 ∧ w'.cell? ⟨g, 6, none⟩ = some x6 ∧ w'.cell? ⟨g, 7, none⟩ = some x7 ∧ w'.cell? ⟨g + 1, 0, none⟩ = some y0 ∧ w'.cell? ⟨g + 1, 1, none⟩ = some y1 ∧ w'.cell? ⟨g + 1, 2, none⟩ = some y2 ∧ w'.cell? ⟨g + 1, 3, none⟩ = some y3 ∧ w'.cell? ⟨g + 1, 4, none⟩ = some y4 ∧ w'.cell? ⟨g + 1, 5, none⟩ = some y5 ∧ w'.cell? ⟨g + 1, 6, none⟩ = some y6 ∧ w'.cell? ⟨g + 1, 7, none⟩ = some y7 :=
  ⟨h.1.cell (i := 0) rfl, h.1.cell (i := 1) rfl, h.1.cell (i := 2) rfl, h.1.cell (i := 3) rfl, h.1.cell (i := 4) rfl, h.1.cell (i := 5) rfl, h.1.cell (i := 6) rfl, h.1.cell (i := 7) rfl, h.2.cell (i := 0) rfl, h.2.cell (i := 1) rfl, h.2.cell (i := 2) rfl, h.2.cell (i := 3) rfl, h.2.cell (i := 4) rfl, h.2.cell (i := 5) rfl, h.2.cell (i := 6) rfl, h.2.cell (i := 7) rfl⟩
/-- a store into a block of another type leaves a row as it was -/
theorem Own1.set_other {α : Type} {w : World} {base size g i : Nat} {e t : TypeId} {cs : Array Value} {R : List Value → α → Prop} {v : Value} {l : List α} (h : Own1 w base e size R v l) (hb : Blk w g t cs) (hne : e ≠ t) (u : Value) : Own1 (w.setCell ⟨g, i, none⟩ u) base e size R v l := by
  obtain ⟨xs, ⟨h0, h1⟩, h2⟩ := h
  refine ⟨xs, ⟨h0, ?_⟩, h2⟩
  rcases h1 with h1 | ⟨k, cap, cur, r1, r2, r3, r4⟩
  · exact .inl h1
  · refine .inr ⟨k, cap, cur, r1, r2, ?_, r4⟩
    have hk : k ≠ g := by
      intro he
      subst he
      unfold Blk at hb
      rw [r3] at hb
      injection hb with hb
      injection hb with _ hb _
      exact hne hb
    rw [Below.heap_setCell w ⟨g, i, none⟩ u k hk]
    exact r3
theorem Stays.of_set_typed {w : World} {base g i : Nat} {t : TypeId} {cs : Array Value} (hb : Blk w g t cs) (u : Value) : Stays w (w.setCell ⟨g, i, none⟩ u) base (fun e => e == t) :=
  fun _ _ _ _ _ _ h ho => ho.set_other hb (by simpa using h) u
/-- the rows of a definition -/
theorem rows_of {w : World} {B : Nat} {e0 : ByteArray} {e1 : Int} {e2 : Option Addr} {en2 ec2 : Nat} {e3 : Option Addr} {en3 ec3 : Nat} {e4 : Option Addr} {en4 ec4 : Nat} {e5 : Option Addr} {en5 ec5 : Nat} {e6 : Option Addr} {en6 ec6 : Nat} {e7 : Option Addr} {en7 ec7 : Nat} {d : Language} (h : Language.Is w B [.string e0, .int .i64 e1, .slice e2 en2 ec2, .slice e3 en3 ec3, .slice e4 en4 ec4, .slice e5 en5 ec5, .slice e6 en6 ec6, .slice e7 en7 ec7] d) :
    SlR w B 1 IsText (.slice e2 en2 ec2) d.uses ∧ SlR w B 6 (Concept.Is w B) (.slice e3 en3 ec3) d.concepts ∧ SlR w B 4 Rule.Is (.slice e4 en4 ec4) d.rules ∧ SlR w B 3 (Equation.Is w B) (.slice e5 en5 ec5) d.equations ∧ SlR w B 2 (Editor.Is w B) (.slice e6 en6 ec6) d.editors ∧ SlR w B 2 (Template.Is w B) (.slice e7 en7 ec7) d.templates := by
  obtain ⟨v2, v3, v4, v5, v6, v7, he, h2, h3, h4, h5, h6, h7, _⟩ := h
  injection he with _ he
  injection he with _ he
  injection he with q2 he
  subst q2
  injection he with q3 he
  subst q3
  injection he with q4 he
  subst q4
  injection he with q5 he
  subst q5
  injection he with q6 he
  subst q6
  injection he with q7 he
  subst q7
  exact ⟨h2, h3, h4, h5, h6, h7⟩
def Concept.Mix (w : World) (base : Nat) (w0 : World) (x : List Value) (d : Concept) : Prop := Concept.Own w base x d ∨ Concept.Is w0 w0.heap.size x d
theorem Concept.Mix.stays {w w' w0 : World} {base : Nat} {bad : TypeId → Bool} {x : List Value} {d : Concept} (h : Concept.Mix w base w0 x d) (s : Stays w w' base bad) (h0 : bad 105 = false) (h1 : bad 62 = false) (h2 : bad 107 = false) : Concept.Mix w' base w0 x d := by
  rcases h with h | h
  · exact .inl (h.stays s h0 h1 h2)
  · exact .inr h
theorem Concept.Mix.is {w w0 : World} {base : Nat} {x : List Value} {d : Concept} (h : Concept.Mix w base w0 x d) (hb : Below w0.heap.size w0 w) : Concept.Is w w.heap.size x d := by
  rcases h with h | h
  · exact h.is
  · exact h.keep (fun _ hp => hb.cell hp) hb.size
theorem Concept.Mix.one {w w0 : World} {base : Nat} (x : List Value) (d : Concept) (h : Concept.Mix w base w0 x d) : ∀ u ∈ x, u.oneCell' = true := by
  intro u hu
  rcases h with h | h
  · obtain ⟨_, _, _, rfl, r0, r1, r2, _⟩ := h
    obtain ⟨_, _, rfl⟩ := r0.form
    obtain ⟨_, _, rfl⟩ := r1.form
    obtain ⟨_, _, rfl⟩ := r2.form
    simp at hu
    rcases hu with rfl | rfl | rfl | rfl | rfl | rfl <;> rfl
  · obtain ⟨_, _, _, rfl, r0, r1, r2, _⟩ := h
    obtain ⟨_, _, _, rfl⟩ := r0.form'
    obtain ⟨_, _, _, rfl⟩ := r1.form'
    obtain ⟨_, _, _, rfl⟩ := r2.form'
    simp at hu
    rcases hu with rfl | rfl | rfl | rfl | rfl | rfl <;> rfl
def Equation.Mix (w : World) (base : Nat) (w0 : World) (x : List Value) (d : Equation) : Prop := Equation.Own w base x d ∨ Equation.Is w0 w0.heap.size x d
theorem Equation.Mix.stays {w w' w0 : World} {base : Nat} {bad : TypeId → Bool} {x : List Value} {d : Equation} (h : Equation.Mix w base w0 x d) (s : Stays w w' base bad) (h0 : bad 3 = false) (h1 : bad 114 = false) : Equation.Mix w' base w0 x d := by
  rcases h with h | h
  · exact .inl (h.stays s h0 h1)
  · exact .inr h
theorem Equation.Mix.is {w w0 : World} {base : Nat} {x : List Value} {d : Equation} (h : Equation.Mix w base w0 x d) (hb : Below w0.heap.size w0 w) : Equation.Is w w.heap.size x d := by
  rcases h with h | h
  · exact h.is
  · exact h.keep (fun _ hp => hb.cell hp) hb.size
theorem Equation.Mix.one {w w0 : World} {base : Nat} (x : List Value) (d : Equation) (h : Equation.Mix w base w0 x d) : ∀ u ∈ x, u.oneCell' = true := by
  intro u hu
  rcases h with h | h
  · obtain ⟨_, _, rfl, r0, r1, _⟩ := h
    obtain ⟨_, _, rfl⟩ := r0.form
    obtain ⟨_, _, rfl⟩ := r1.form
    simp at hu
    rcases hu with rfl | rfl | rfl <;> rfl
  · obtain ⟨_, _, rfl, r0, r1, _⟩ := h
    obtain ⟨_, _, _, rfl⟩ := r0.form'
    obtain ⟨_, _, _, rfl⟩ := r1.form'
    simp at hu
    rcases hu with rfl | rfl | rfl <;> rfl
def Editor.Mix (w : World) (base : Nat) (w0 : World) (x : List Value) (d : Editor) : Prop := Editor.Own w base x d ∨ Editor.Is w0 w0.heap.size x d
theorem Editor.Mix.stays {w w' w0 : World} {base : Nat} {bad : TypeId → Bool} {x : List Value} {d : Editor} (h : Editor.Mix w base w0 x d) (s : Stays w w' base bad) (h0 : bad 91 = false) : Editor.Mix w' base w0 x d := by
  rcases h with h | h
  · exact .inl (h.stays s h0)
  · exact .inr h
theorem Editor.Mix.is {w w0 : World} {base : Nat} {x : List Value} {d : Editor} (h : Editor.Mix w base w0 x d) (hb : Below w0.heap.size w0 w) : Editor.Is w w.heap.size x d := by
  rcases h with h | h
  · exact h.is
  · exact h.keep (fun _ hp => hb.cell hp) hb.size
theorem Editor.Mix.one {w w0 : World} {base : Nat} (x : List Value) (d : Editor) (h : Editor.Mix w base w0 x d) : ∀ u ∈ x, u.oneCell' = true := by
  intro u hu
  rcases h with h | h
  · obtain ⟨_, rfl, r0, _⟩ := h
    obtain ⟨_, _, rfl⟩ := r0.form
    simp at hu
    rcases hu with rfl | rfl <;> rfl
  · obtain ⟨_, rfl, r0, _⟩ := h
    obtain ⟨_, _, _, rfl⟩ := r0.form'
    simp at hu
    rcases hu with rfl | rfl <;> rfl
def Template.Mix (w : World) (base : Nat) (w0 : World) (x : List Value) (d : Template) : Prop := Template.Own w base x d ∨ Template.Is w0 w0.heap.size x d
theorem Template.Mix.stays {w w' w0 : World} {base : Nat} {bad : TypeId → Bool} {x : List Value} {d : Template} (h : Template.Mix w base w0 x d) (s : Stays w w' base bad) (h0 : bad 97 = false) : Template.Mix w' base w0 x d := by
  rcases h with h | h
  · exact .inl (h.stays s h0)
  · exact .inr h
theorem Template.Mix.is {w w0 : World} {base : Nat} {x : List Value} {d : Template} (h : Template.Mix w base w0 x d) (hb : Below w0.heap.size w0 w) : Template.Is w w.heap.size x d := by
  rcases h with h | h
  · exact h.is
  · exact h.keep (fun _ hp => hb.cell hp) hb.size
theorem Template.Mix.one {w w0 : World} {base : Nat} (x : List Value) (d : Template) (h : Template.Mix w base w0 x d) : ∀ u ∈ x, u.oneCell' = true := by
  intro u hu
  rcases h with h | h
  · obtain ⟨_, rfl, r0, _⟩ := h
    obtain ⟨_, _, rfl⟩ := r0.form
    simp at hu
    rcases hu with rfl | rfl <;> rfl
  · obtain ⟨_, rfl, r0, _⟩ := h
    obtain ⟨_, _, _, rfl⟩ := r0.form'
    simp at hu
    rcases hu with rfl | rfl <;> rfl
end Go.Proofs.YtdhljfblkidohaaGreat
