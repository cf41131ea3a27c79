/- lang.Check: the first thing that is wrong with a definition, thrown and caught. -/
import Derived.Test.YtdhljfblkidohaaGreatCk
import Derived.Test.YtdhljfblkidohaaGreatEach
import Derived.Defers
import Derived.Recover
import Derived.Tactics
import Derived.Tactics2
import Derived.Laws.Pointers
namespace Go.Proofs.YtdhljfblkidohaaGreat
set_option linter.unusedSimpArgs false
set_option linter.unusedVariables false
open Go.RowKit

set_option maxRecDepth 100000 in
theorem catch_thrown (g : Nat) (a b c d z0 z1 z2 z3 : Int) (older : List PanicEntry) (w : World) (hb : Blk w g 34 #[.int .i64 z0, .int .i64 z1, .int .i64 z2, .int .i64 z3]) :
    CallsD Tryz.prog 16 #[.pointer (some ⟨g, 0, none⟩)] (.panicking ({ v := .iface 67 (fltV a b c d), recovered := false } :: older)) w fun e u' w' =>
      e = .returned (.tuple #[]) ∧ u' = .panicking ({ v := .iface 67 (fltV a b c d), recovered := true } :: older) ∧ Below g w w' ∧ Blk w' g 34 #[.int .i64 a, .int .i64 b, .int .i64 c, .int .i64 d] := by
  have q0 : w.cell? ⟨g, 0, none⟩ = some (.int .i64 z0) := hb.cell rfl
  have q1 : w.cell? ⟨g, 1, none⟩ = some (.int .i64 z1) := hb.cell rfl
  have q2 : w.cell? ⟨g, 2, none⟩ = some (.int .i64 z2) := hb.cell rfl
  have q3 : w.cell? ⟨g, 3, none⟩ = some (.int .i64 z3) := hb.cell rfl
  have f0 := hb.frozen 0
  have f1 := hb.frozen 1
  have f2 := hb.frozen 2
  have f3 := hb.frozen 3
  have lg := hb.lt
  have Hb := Lib.hid hb
  clear hb
  have has : ∀ (v : Value) (W : World), (Instr.typeAssert (.iface 67 v) 20 67 true).run Tryz.prog W = .ok (.tuple #[v, .bool true]) W := by intros; kernel_rfl
  simp only [fltV]
  refine callsD_of_wpS Tryz.func16 rfl fun c₀ cs hu => ?_
  simp only [Tryz.ntmps16, List.size_toArray, List.length_cons, List.length_nil, Nat.reduceAdd, Nat.reduceSub, Array.replicate_succ, Array.replicate_zero, List.push_toArray, List.append_toArray, List.nil_append, List.cons_append]
  apply wpS_seq
  apply wpS_region
  simp [wpOpsS, go_sem, recoverD, hu, Exit.thenS]
  refine wpS_of_wp ?_
  go_wp2_with fail
  have HK : Hid (Blk ((((w.setCell ⟨g, 0, none⟩ (.int .i64 a)).setCell ⟨g, 1, none⟩ (.int .i64 b)).setCell ⟨g, 2, none⟩ (.int .i64 c)).setCell ⟨g, 3, none⟩ (.int .i64 d)) g 34 #[.int .i64 a, .int .i64 b, .int .i64 c, .int .i64 d]) := Lib.hid ((((Hb.out.set_ 0 _).set_ 1 _).set_ 2 _).set_ 3 _)
  have HB : Hid (Below g w ((((w.setCell ⟨g, 0, none⟩ (.int .i64 a)).setCell ⟨g, 1, none⟩ (.int .i64 b)).setCell ⟨g, 2, none⟩ (.int .i64 c)).setCell ⟨g, 3, none⟩ (.int .i64 d))) := Lib.hid (((((Below.refl g w).setCell (p := ⟨g, 0, none⟩) (Nat.le_refl g) _).setCell (p := ⟨g, 1, none⟩) (Nat.le_refl g) _).setCell (p := ⟨g, 2, none⟩) (Nat.le_refl g) _).setCell (p := ⟨g, 3, none⟩) (Nat.le_refl g) _)
  obtain ⟨k1, k2, k3, k4, k5, k6, k7⟩ := c₀
  simp [bodyPostS, results, Tryz.results16]
  exact ⟨HB.out.alloc (Nat.le_of_lt (Nat.lt_of_lt_of_le lg HB.out.size)) _, HK.out.alloc _⟩
theorem catch_idle (g : Nat) (w : World) :
    CallsD Tryz.prog 16 #[.pointer (some ⟨g, 0, none⟩)] .returning w fun e u' w' => e = .returned (.tuple #[]) ∧ u' = .returning ∧ w' = w := by
  refine callsD_of_wpS Tryz.func16 rfl fun c₀ cs hu => ?_
  simp only [Tryz.ntmps16, List.size_toArray, List.length_cons, List.length_nil, Nat.reduceAdd, Nat.reduceSub, Array.replicate_succ, Array.replicate_zero, List.push_toArray, List.append_toArray, List.nil_append, List.cons_append]
  apply wpS_seq
  apply wpS_region
  simp [wpOpsS, go_sem, recoverD, hu, Exit.thenS]
  refine wpS_of_wp ?_
  go_wp2_with fail
  cases c₀
  simp_all [bodyPostS, results, Tryz.results16]


/-- a fault as a value -/
abbrev fltR (f : Flt) : Value := fltV (f.list : Int) (f.at_ : Int) (f.part : Int) (f.err : Int)
/-- the frame of lang.Check: the box of what came, and the box of the answer -/
structure Ck (w : World) (xs : Array Value) (W : World) : Prop where
  low : Below w.heap.size w W
  box : Blk W w.heap.size 29 xs
  fb : Blk W (w.heap.size + 1) 34 #[.int .i64 0, .int .i64 0, .int .i64 0, .int .i64 0]
theorem Ck.new (w : World) (xs : Array Value) : Ck w xs ((w.alloc (.cells xs 29)).alloc (.cells #[.int .i64 0, .int .i64 0, .int .i64 0, .int .i64 0] 34)) :=
  ⟨((Below.refl _ _).alloc (Nat.le_refl _) _).alloc (below2 (Nat.le_refl _)) _, (Blk.new _ _ _).alloc _, Blk.new_ (by simp) _ _⟩
theorem Ck.step {w : World} {xs : Array Value} {W W' : World} (h : Ck w xs W) (b : Below W.heap.size W W') : Ck w xs W' := ⟨h.low.trans (b.mono h.low.size), h.box.below b h.box.lt, h.fb.below b h.fb.lt⟩

theorem eachC_text {l : Language} {v : Value} (W : World) (q : Nat) (hs : SlR W W.heap.size 1 IsText v l.uses) (hq0 : W.cell? ⟨q, 0, none⟩ = some (.string l.name)) (hqc : W.cell? ⟨q, 2, none⟩ = some v) :
    Calls Tryz.prog 19 #[.int .i64 1, .int .i64 8, v, .func (.func 20) #[] #[.pointer (some ⟨q, 0, none⟩)]] W fun e W' => e = eachEnd 1 (eachE 8 (useE l) 0 l.uses) ∧ Below W.heap.size W W' := by
  obtain ⟨a, n, c, rfl⟩ := hs.form'
  have hs1 := hs
  exact each_text (useE l) 20 #[.pointer (some ⟨q, 0, none⟩)] 1 8 W W (by omega) (by omega) hs (Below.refl _ _) (fun args w => by go_simp) (fun i x y W' hy hi hx' hW => by
      obtain ⟨rfl, ho⟩ := hx'
      have hc := hs1.caps
      exact ck_use l q i y a n c W W' hs1 hW (by have := (List.getElem?_eq_some_iff.1 hy).1; have := hs1.len; omega) ho ((hW.cell (cell_lt hq0)).trans hq0) ((hW.cell (cell_lt hqc)).trans hqc))
theorem eachT_text {l : Language} {v : Value} (W : World) (q k p e : Nat) (hs : SlR W W.heap.size 1 IsText v l.uses) (hq0 : W.cell? ⟨q, 0, none⟩ = some (.string l.name)) (hqc : W.cell? ⟨q, 2, none⟩ = some v) (hr : eachE 8 (useE l) 0 l.uses = some (k, p, e)) :
    Calls Tryz.prog 19 #[.int .i64 1, .int .i64 8, v, .func (.func 20) #[] #[.pointer (some ⟨q, 0, none⟩)]] W fun en W' => en = .panicked (thrown (fltV 1 (k : Int) (p : Int) (e : Int))) ∧ Below W.heap.size W W' := by
  have h := eachC_text W q hs hq0 hqc
  rw [hr] at h
  exact h
theorem eachN_text {l : Language} {v : Value} (W : World) (q : Nat) (hs : SlR W W.heap.size 1 IsText v l.uses) (hq0 : W.cell? ⟨q, 0, none⟩ = some (.string l.name)) (hqc : W.cell? ⟨q, 2, none⟩ = some v) (hr : eachE 8 (useE l) 0 l.uses = none) :
    Calls Tryz.prog 19 #[.int .i64 1, .int .i64 8, v, .func (.func 20) #[] #[.pointer (some ⟨q, 0, none⟩)]] W fun en W' => en = .returned (.tuple #[]) ∧ Below W.heap.size W W' := by
  have h := eachC_text W q hs hq0 hqc
  rw [hr] at h
  exact h

theorem eachC_concept {l : Language} {v : Value} (W : World) (q : Nat) (hs : SlR W W.heap.size 6 (Concept.Is W W.heap.size) v l.concepts) (hq0 : W.cell? ⟨q, 0, none⟩ = some (.string l.name)) (hqc : W.cell? ⟨q, 3, none⟩ = some v) :
    Calls Tryz.prog 23 #[.int .i64 2, .int .i64 128, v, .func (.func 24) #[] #[.pointer (some ⟨q, 0, none⟩)]] W fun e W' => e = eachEnd 2 (eachE 128 (conceptE l.concepts) 0 l.concepts) ∧ Below W.heap.size W W' := by
  obtain ⟨a, n, c, rfl⟩ := hs.form'
  have hs1 := hs
  exact each_concept (conceptE l.concepts) 24 #[.pointer (some ⟨q, 0, none⟩)] 2 128 W W (by omega) (by omega) hs (Below.refl _ _) (fun args w => by go_simp) (fun i x y W' hy hi hx' hW => ck_concept l q i y x a n c W W' hs1 hW (by have := (List.getElem?_eq_some_iff.1 hy).1; have := hs1.len; omega) hx' ((hW.cell (cell_lt hqc)).trans hqc))
theorem eachT_concept {l : Language} {v : Value} (W : World) (q k p e : Nat) (hs : SlR W W.heap.size 6 (Concept.Is W W.heap.size) v l.concepts) (hq0 : W.cell? ⟨q, 0, none⟩ = some (.string l.name)) (hqc : W.cell? ⟨q, 3, none⟩ = some v) (hr : eachE 128 (conceptE l.concepts) 0 l.concepts = some (k, p, e)) :
    Calls Tryz.prog 23 #[.int .i64 2, .int .i64 128, v, .func (.func 24) #[] #[.pointer (some ⟨q, 0, none⟩)]] W fun en W' => en = .panicked (thrown (fltV 2 (k : Int) (p : Int) (e : Int))) ∧ Below W.heap.size W W' := by
  have h := eachC_concept W q hs hq0 hqc
  rw [hr] at h
  exact h
theorem eachN_concept {l : Language} {v : Value} (W : World) (q : Nat) (hs : SlR W W.heap.size 6 (Concept.Is W W.heap.size) v l.concepts) (hq0 : W.cell? ⟨q, 0, none⟩ = some (.string l.name)) (hqc : W.cell? ⟨q, 3, none⟩ = some v) (hr : eachE 128 (conceptE l.concepts) 0 l.concepts = none) :
    Calls Tryz.prog 23 #[.int .i64 2, .int .i64 128, v, .func (.func 24) #[] #[.pointer (some ⟨q, 0, none⟩)]] W fun en W' => en = .returned (.tuple #[]) ∧ Below W.heap.size W W' := by
  have h := eachC_concept W q hs hq0 hqc
  rw [hr] at h
  exact h

theorem eachC_rule {l : Language} {v : Value} (W : World) (q : Nat) (hs : SlR W W.heap.size 4 Rule.Is v l.rules) (hq0 : W.cell? ⟨q, 0, none⟩ = some (.string l.name)) (hqc : W.cell? ⟨q, 4, none⟩ = some v) :
    Calls Tryz.prog 26 #[.int .i64 3, .int .i64 256, v, .func (.func 27) #[] #[.pointer (some ⟨q, 0, none⟩)]] W fun e W' => e = eachEnd 3 (eachE 256 (ruleE l.rules) 0 l.rules) ∧ Below W.heap.size W W' := by
  obtain ⟨a, n, c, rfl⟩ := hs.form'
  have hs1 := hs
  exact each_rule (ruleE l.rules) 27 #[.pointer (some ⟨q, 0, none⟩)] 3 256 W W (by omega) (by omega) hs (Below.refl _ _) (fun args w => by go_simp) (fun i x y W' hy hi hx' hW => ck_rule l q i y x a n c W W' hs1 hW (by have := (List.getElem?_eq_some_iff.1 hy).1; have := hs1.len; omega) hx' ((hW.cell (cell_lt hqc)).trans hqc))
theorem eachT_rule {l : Language} {v : Value} (W : World) (q k p e : Nat) (hs : SlR W W.heap.size 4 Rule.Is v l.rules) (hq0 : W.cell? ⟨q, 0, none⟩ = some (.string l.name)) (hqc : W.cell? ⟨q, 4, none⟩ = some v) (hr : eachE 256 (ruleE l.rules) 0 l.rules = some (k, p, e)) :
    Calls Tryz.prog 26 #[.int .i64 3, .int .i64 256, v, .func (.func 27) #[] #[.pointer (some ⟨q, 0, none⟩)]] W fun en W' => en = .panicked (thrown (fltV 3 (k : Int) (p : Int) (e : Int))) ∧ Below W.heap.size W W' := by
  have h := eachC_rule W q hs hq0 hqc
  rw [hr] at h
  exact h
theorem eachN_rule {l : Language} {v : Value} (W : World) (q : Nat) (hs : SlR W W.heap.size 4 Rule.Is v l.rules) (hq0 : W.cell? ⟨q, 0, none⟩ = some (.string l.name)) (hqc : W.cell? ⟨q, 4, none⟩ = some v) (hr : eachE 256 (ruleE l.rules) 0 l.rules = none) :
    Calls Tryz.prog 26 #[.int .i64 3, .int .i64 256, v, .func (.func 27) #[] #[.pointer (some ⟨q, 0, none⟩)]] W fun en W' => en = .returned (.tuple #[]) ∧ Below W.heap.size W W' := by
  have h := eachC_rule W q hs hq0 hqc
  rw [hr] at h
  exact h

theorem eachC_equation {l : Language} {v : Value} (W : World) (q : Nat) (hs : SlR W W.heap.size 3 (Equation.Is W W.heap.size) v l.equations) (hq0 : W.cell? ⟨q, 0, none⟩ = some (.string l.name)) (hqc : W.cell? ⟨q, 5, none⟩ = some v) :
    Calls Tryz.prog 30 #[.int .i64 4, .int .i64 256, v, .func (.func 31) #[] #[]] W fun e W' => e = eachEnd 4 (eachE 256 (equationE) 0 l.equations) ∧ Below W.heap.size W W' := by
  obtain ⟨a, n, c, rfl⟩ := hs.form'
  have hs1 := hs
  exact each_equation (equationE) 31 #[] 4 256 W W (by omega) (by omega) hs (Below.refl _ _) (fun args w => by go_simp) (fun i x y W' hy hi hx' hW => ck_equation i y x W W' hW hx')
theorem eachT_equation {l : Language} {v : Value} (W : World) (q k p e : Nat) (hs : SlR W W.heap.size 3 (Equation.Is W W.heap.size) v l.equations) (hq0 : W.cell? ⟨q, 0, none⟩ = some (.string l.name)) (hqc : W.cell? ⟨q, 5, none⟩ = some v) (hr : eachE 256 (equationE) 0 l.equations = some (k, p, e)) :
    Calls Tryz.prog 30 #[.int .i64 4, .int .i64 256, v, .func (.func 31) #[] #[]] W fun en W' => en = .panicked (thrown (fltV 4 (k : Int) (p : Int) (e : Int))) ∧ Below W.heap.size W W' := by
  have h := eachC_equation W q hs hq0 hqc
  rw [hr] at h
  exact h
theorem eachN_equation {l : Language} {v : Value} (W : World) (q : Nat) (hs : SlR W W.heap.size 3 (Equation.Is W W.heap.size) v l.equations) (hq0 : W.cell? ⟨q, 0, none⟩ = some (.string l.name)) (hqc : W.cell? ⟨q, 5, none⟩ = some v) (hr : eachE 256 (equationE) 0 l.equations = none) :
    Calls Tryz.prog 30 #[.int .i64 4, .int .i64 256, v, .func (.func 31) #[] #[]] W fun en W' => en = .returned (.tuple #[]) ∧ Below W.heap.size W W' := by
  have h := eachC_equation W q hs hq0 hqc
  rw [hr] at h
  exact h

theorem eachC_editor {l : Language} {v : Value} (W : World) (q : Nat) (hs : SlR W W.heap.size 2 (Editor.Is W W.heap.size) v l.editors) (hq0 : W.cell? ⟨q, 0, none⟩ = some (.string l.name)) (hqc : W.cell? ⟨q, 6, none⟩ = some v) :
    Calls Tryz.prog 33 #[.int .i64 5, .int .i64 256, v, .func (.func 34) #[] #[.pointer (some ⟨q, 0, none⟩)]] W fun e W' => e = eachEnd 5 (eachE 256 (editorE l.editors) 0 l.editors) ∧ Below W.heap.size W W' := by
  obtain ⟨a, n, c, rfl⟩ := hs.form'
  have hs1 := hs
  exact each_editor (editorE l.editors) 34 #[.pointer (some ⟨q, 0, none⟩)] 5 256 W W (by omega) (by omega) hs (Below.refl _ _) (fun args w => by go_simp) (fun i x y W' hy hi hx' hW => ck_Editor l q i y x a n c W W' hs1 hW (by have := (List.getElem?_eq_some_iff.1 hy).1; have := hs1.len; omega) hx' ((hW.cell (cell_lt hqc)).trans hqc))
theorem eachT_editor {l : Language} {v : Value} (W : World) (q k p e : Nat) (hs : SlR W W.heap.size 2 (Editor.Is W W.heap.size) v l.editors) (hq0 : W.cell? ⟨q, 0, none⟩ = some (.string l.name)) (hqc : W.cell? ⟨q, 6, none⟩ = some v) (hr : eachE 256 (editorE l.editors) 0 l.editors = some (k, p, e)) :
    Calls Tryz.prog 33 #[.int .i64 5, .int .i64 256, v, .func (.func 34) #[] #[.pointer (some ⟨q, 0, none⟩)]] W fun en W' => en = .panicked (thrown (fltV 5 (k : Int) (p : Int) (e : Int))) ∧ Below W.heap.size W W' := by
  have h := eachC_editor W q hs hq0 hqc
  rw [hr] at h
  exact h
theorem eachN_editor {l : Language} {v : Value} (W : World) (q : Nat) (hs : SlR W W.heap.size 2 (Editor.Is W W.heap.size) v l.editors) (hq0 : W.cell? ⟨q, 0, none⟩ = some (.string l.name)) (hqc : W.cell? ⟨q, 6, none⟩ = some v) (hr : eachE 256 (editorE l.editors) 0 l.editors = none) :
    Calls Tryz.prog 33 #[.int .i64 5, .int .i64 256, v, .func (.func 34) #[] #[.pointer (some ⟨q, 0, none⟩)]] W fun en W' => en = .returned (.tuple #[]) ∧ Below W.heap.size W W' := by
  have h := eachC_editor W q hs hq0 hqc
  rw [hr] at h
  exact h

theorem eachC_template {l : Language} {v : Value} (W : World) (q : Nat) (hs : SlR W W.heap.size 2 (Template.Is W W.heap.size) v l.templates) (hq0 : W.cell? ⟨q, 0, none⟩ = some (.string l.name)) (hqc : W.cell? ⟨q, 7, none⟩ = some v) :
    Calls Tryz.prog 39 #[.int .i64 6, .int .i64 256, v, .func (.func 40) #[] #[.pointer (some ⟨q, 0, none⟩)]] W fun e W' => e = eachEnd 6 (eachE 256 (templateE l.templates) 0 l.templates) ∧ Below W.heap.size W W' := by
  obtain ⟨a, n, c, rfl⟩ := hs.form'
  have hs1 := hs
  exact each_template (templateE l.templates) 40 #[.pointer (some ⟨q, 0, none⟩)] 6 256 W W (by omega) (by omega) hs (Below.refl _ _) (fun args w => by go_simp) (fun i x y W' hy hi hx' hW => ck_Template l q i y x a n c W W' hs1 hW (by have := (List.getElem?_eq_some_iff.1 hy).1; have := hs1.len; omega) hx' ((hW.cell (cell_lt hqc)).trans hqc))
theorem eachT_template {l : Language} {v : Value} (W : World) (q k p e : Nat) (hs : SlR W W.heap.size 2 (Template.Is W W.heap.size) v l.templates) (hq0 : W.cell? ⟨q, 0, none⟩ = some (.string l.name)) (hqc : W.cell? ⟨q, 7, none⟩ = some v) (hr : eachE 256 (templateE l.templates) 0 l.templates = some (k, p, e)) :
    Calls Tryz.prog 39 #[.int .i64 6, .int .i64 256, v, .func (.func 40) #[] #[.pointer (some ⟨q, 0, none⟩)]] W fun en W' => en = .panicked (thrown (fltV 6 (k : Int) (p : Int) (e : Int))) ∧ Below W.heap.size W W' := by
  have h := eachC_template W q hs hq0 hqc
  rw [hr] at h
  exact h
theorem eachN_template {l : Language} {v : Value} (W : World) (q : Nat) (hs : SlR W W.heap.size 2 (Template.Is W W.heap.size) v l.templates) (hq0 : W.cell? ⟨q, 0, none⟩ = some (.string l.name)) (hqc : W.cell? ⟨q, 7, none⟩ = some v) (hr : eachE 256 (templateE l.templates) 0 l.templates = none) :
    Calls Tryz.prog 39 #[.int .i64 6, .int .i64 256, v, .func (.func 40) #[] #[.pointer (some ⟨q, 0, none⟩)]] W fun en W' => en = .returned (.tuple #[]) ∧ Below W.heap.size W W' := by
  have h := eachC_template W q hs hq0 hqc
  rw [hr] at h
  exact h

set_option maxRecDepth 100000 in
set_option maxHeartbeats 4000000 in
theorem check_any {l : Language} {x : List Value} (w w0 : World) (hx : Language.Is w0 w0.heap.size x l) (hw : Below w0.heap.size w0 w) :
    Calls Tryz.prog 7 #[.agg x.toArray] w fun e w' => e = .returned (fltR (checkE l)) ∧ Below w.heap.size w w' := by
  have hmf : ∀ (fn : Fn) (first cap : Array Value) (w : World), (Instr.makeFunc fn first cap).run Tryz.prog w = .ok (.func fn first cap) w := fun _ _ _ _ => rfl
  obtain ⟨v1, v2, v3, v4, v5, v6, rfl, s1, s2, s3, s4, s5, s6, _, o1, _⟩ := hx
  have S1 := Lib.hid s1
  have S2 := Lib.hid s2
  have S3 := Lib.hid s3
  have S4 := Lib.hid s4
  have S5 := Lib.hid s5
  have S6 := Lib.hid s6
  have HW := Lib.hid hw
  obtain ⟨y1, m1, c1, rfl⟩ := s1.form'
  obtain ⟨y2, m2, c2, rfl⟩ := s2.form'
  obtain ⟨y3, m3, c3, rfl⟩ := s3.form'
  obtain ⟨y4, m4, c4, rfl⟩ := s4.form'
  obtain ⟨y5, m5, c5, rfl⟩ := s5.form'
  obtain ⟨y6, m6, c6, rfl⟩ := s6.form'
  clear s1 s2 s3 s4 s5 s6 hw

  rcases hA : okName l.name with _ | _
  · have hv : checkE l = ⟨0, 0, 0, 2⟩ := by unfold checkE; rw [if_pos hA]
    rw [hv]; clear hv
    have RR := Lib.hid (fun W => right_of l.name o1 false hA W)
    clear hA
    go_enter_defers Tryz.func7, Tryz.ntmps7
    go_wp2_with (first
      | (go_at_call 18
         with_reducible refine (RR.out _).mono ?_
         rintro e w1 ⟨rfl, q1⟩
         have C1 : Hid (Ck w #[.string l.name, .int .i64 l.version, .slice y1 m1 c1, .slice y2 m2 c2, .slice y3 m3 c3, .slice y4 m4 c4, .slice y5 m5 c5, .slice y6 m6 c6] w1) := Lib.hid ((Ck.new _ _).step (q1.below _)))
      | (go_at_call 17
         have _t := C1
         with_reducible refine (must_no _ _ _ _ _).mono ?_
         rintro e w2 ⟨rfl, b2⟩
         have C2 : Hid (Ck w #[.string l.name, .int .i64 l.version, .slice y1 m1 c1, .slice y2 m2 c2, .slice y3 m3 c3, .slice y4 m4 c4, .slice y5 m5 c5, .slice y6 m6 c6] w2) := Lib.hid (C1.out.step b2)
         skip
         clear C1 _t))
    refine leaves_cons (f := 16) (args := #[.pointer (some ⟨w.heap.size + 1, 0, none⟩)]) (by simp) (by simp [go_sem]) ?_
    refine (catch_thrown (w.heap.size + 1) 0 0 0 2 0 0 0 0 [] _ C2.out.fb).mono ?_
    rintro e u' wf ⟨rfl, rfl, hBf, hKf⟩
    have z0 : wf.cell? ⟨w.heap.size + 1, 0, none⟩ = _ := hKf.cell rfl
    have z1 : wf.cell? ⟨w.heap.size + 1, 1, none⟩ = _ := hKf.cell rfl
    have z2 : wf.cell? ⟨w.heap.size + 1, 2, none⟩ = _ := hKf.cell rfl
    have z3 : wf.cell? ⟨w.heap.size + 1, 3, none⟩ = _ := hKf.cell rfl
    have HF : Hid (Below w.heap.size w wf) := Lib.hid (C2.out.low.trans (hBf.mono (Nat.le_succ _)))
    simp [Leaves, settle, results, Tryz.results7, go_sem, z0, z1, z2, z3]
    exact HF.out
  have RR := Lib.hid (fun W => right_of l.name o1 true hA W)
  by_cases hV : l.version < 1
  · have hv : checkE l = ⟨0, 1, 0, 2⟩ := by unfold checkE; rw [if_neg (by rw [hA]; simp), if_pos hV]
    rw [hv]; clear hv
    have dV : decide (1 ≤ l.version) = false := by simp; omega
    have dV' : ¬ 1 ≤ l.version := by omega
    clear hA
    go_enter_defers Tryz.func7, Tryz.ntmps7
    go_wp2_with (first
      | (go_at_call 18
         with_reducible refine (RR.out _).mono ?_
         rintro e w1 ⟨rfl, q1⟩
         have C1 : Hid (Ck w #[.string l.name, .int .i64 l.version, .slice y1 m1 c1, .slice y2 m2 c2, .slice y3 m3 c3, .slice y4 m4 c4, .slice y5 m5 c5, .slice y6 m6 c6] w1) := Lib.hid ((Ck.new _ _).step (q1.below _)))
      | (go_at_call 17
         have _t := C1
         with_reducible refine (must_yes _ _ _ _ _).mono ?_
         rintro e w2 ⟨rfl, b2⟩
         have C2 : Hid (Ck w #[.string l.name, .int .i64 l.version, .slice y1 m1 c1, .slice y2 m2 c2, .slice y3 m3 c3, .slice y4 m4 c4, .slice y5 m5 c5, .slice y6 m6 c6] w2) := Lib.hid (C1.out.step b2)
         have d2 : w2.cell? ⟨w.heap.size, 1, none⟩ = some (.int .i64 l.version) := C2.out.box.cell rfl
         clear C1 _t)
      | (go_at_call 17
         have _t := C2
         with_reducible refine (must_no _ _ _ _ _).mono ?_
         rintro e w3 ⟨rfl, b3⟩
         have C3 : Hid (Ck w #[.string l.name, .int .i64 l.version, .slice y1 m1 c1, .slice y2 m2 c2, .slice y3 m3 c3, .slice y4 m4 c4, .slice y5 m5 c5, .slice y6 m6 c6] w3) := Lib.hid (C2.out.step b3)
         skip
         clear C2 _t))
    refine leaves_cons (f := 16) (args := #[.pointer (some ⟨w.heap.size + 1, 0, none⟩)]) (by simp) (by simp [go_sem]) ?_
    refine (catch_thrown (w.heap.size + 1) 0 1 0 2 0 0 0 0 [] _ C3.out.fb).mono ?_
    rintro e u' wf ⟨rfl, rfl, hBf, hKf⟩
    have z0 : wf.cell? ⟨w.heap.size + 1, 0, none⟩ = _ := hKf.cell rfl
    have z1 : wf.cell? ⟨w.heap.size + 1, 1, none⟩ = _ := hKf.cell rfl
    have z2 : wf.cell? ⟨w.heap.size + 1, 2, none⟩ = _ := hKf.cell rfl
    have z3 : wf.cell? ⟨w.heap.size + 1, 3, none⟩ = _ := hKf.cell rfl
    have HF : Hid (Below w.heap.size w wf) := Lib.hid (C3.out.low.trans (hBf.mono (Nat.le_succ _)))
    simp [Leaves, settle, results, Tryz.results7, go_sem, z0, z1, z2, z3]
    exact HF.out
  have dV : decide (1 ≤ l.version) = true := by simp; omega
  have dV' : 1 ≤ l.version := by omega

  rcases h1 : eachE 8 (useE l) 0 l.uses with _ | ⟨k, p, en⟩
  rotate_left
  · have hv : checkE l = ⟨1, k, p, en⟩ := by unfold checkE; rw [if_neg (by rw [hA]; simp), if_neg hV]; simp only [h1]; rfl
    rw [hv]; clear hv
    have H1 := Lib.hid h1
    clear hA  h1
    go_enter_defers Tryz.func7, Tryz.ntmps7
    go_wp2_with (first
      | (go_at_call 18
         with_reducible refine (RR.out _).mono ?_
         rintro e w1 ⟨rfl, q1⟩
         have C1 : Hid (Ck w #[.string l.name, .int .i64 l.version, .slice y1 m1 c1, .slice y2 m2 c2, .slice y3 m3 c3, .slice y4 m4 c4, .slice y5 m5 c5, .slice y6 m6 c6] w1) := Lib.hid ((Ck.new _ _).step (q1.below _)))
      | (go_at_call 17
         have _t := C1
         with_reducible refine (must_yes _ _ _ _ _).mono ?_
         rintro e w2 ⟨rfl, b2⟩
         have C2 : Hid (Ck w #[.string l.name, .int .i64 l.version, .slice y1 m1 c1, .slice y2 m2 c2, .slice y3 m3 c3, .slice y4 m4 c4, .slice y5 m5 c5, .slice y6 m6 c6] w2) := Lib.hid (C1.out.step b2)
         have d2 : w2.cell? ⟨w.heap.size, 1, none⟩ = some (.int .i64 l.version) := C2.out.box.cell rfl
         clear C1 _t)
      | (go_at_call 17
         have _t := C2
         with_reducible refine (must_yes _ _ _ _ _).mono ?_
         rintro e w3 ⟨rfl, b3⟩
         have C3 : Hid (Ck w #[.string l.name, .int .i64 l.version, .slice y1 m1 c1, .slice y2 m2 c2, .slice y3 m3 c3, .slice y4 m4 c4, .slice y5 m5 c5, .slice y6 m6 c6] w3) := Lib.hid (C2.out.step b3)
         have d3 : w3.cell? ⟨w.heap.size, 2, none⟩ = some (.slice y1 m1 c1) := C3.out.box.cell rfl
         clear C2 _t)
      | (go_at_call 19
         have hBW := HW.out.trans (C3.out.low.mono HW.out.size)
         with_reducible refine (eachT_text _ w.heap.size k p en (S1.out.keep (fun _ hp => hBW.cell hp) (fun _ _ r => r) hBW.size) (C3.out.box.cell rfl) (C3.out.box.cell rfl) H1.out).mono ?_
         rintro e w4 ⟨rfl, b4⟩
         have C4 : Hid (Ck w #[.string l.name, .int .i64 l.version, .slice y1 m1 c1, .slice y2 m2 c2, .slice y3 m3 c3, .slice y4 m4 c4, .slice y5 m5 c5, .slice y6 m6 c6] w4) := Lib.hid (C3.out.step b4)
         have d4 : w4.cell? ⟨w.heap.size, 3, none⟩ = some (.slice y2 m2 c2) := C4.out.box.cell rfl))
    refine leaves_cons (f := 16) (args := #[.pointer (some ⟨w.heap.size + 1, 0, none⟩)]) (by simp) (by simp [go_sem]) ?_
    refine (catch_thrown (w.heap.size + 1) 1 (k : Int) (p : Int) (en : Int) 0 0 0 0 [] _ C4.out.fb).mono ?_
    rintro e u' wf ⟨rfl, rfl, hBf, hKf⟩
    have z0 : wf.cell? ⟨w.heap.size + 1, 0, none⟩ = _ := hKf.cell rfl
    have z1 : wf.cell? ⟨w.heap.size + 1, 1, none⟩ = _ := hKf.cell rfl
    have z2 : wf.cell? ⟨w.heap.size + 1, 2, none⟩ = _ := hKf.cell rfl
    have z3 : wf.cell? ⟨w.heap.size + 1, 3, none⟩ = _ := hKf.cell rfl
    have HF : Hid (Below w.heap.size w wf) := Lib.hid (C4.out.low.trans (hBf.mono (Nat.le_succ _)))
    simp [Leaves, settle, results, Tryz.results7, go_sem, z0, z1, z2, z3]
    exact HF.out
  have H1 := Lib.hid h1
  rcases h2 : eachE 128 (conceptE l.concepts) 0 l.concepts with _ | ⟨k, p, en⟩
  rotate_left
  · have hv : checkE l = ⟨2, k, p, en⟩ := by unfold checkE; rw [if_neg (by rw [hA]; simp), if_neg hV]; simp only [h1, h2]; rfl
    rw [hv]; clear hv
    have H2 := Lib.hid h2
    clear hA h1 h2
    go_enter_defers Tryz.func7, Tryz.ntmps7
    go_wp2_with (first
      | (go_at_call 18
         with_reducible refine (RR.out _).mono ?_
         rintro e w1 ⟨rfl, q1⟩
         have C1 : Hid (Ck w #[.string l.name, .int .i64 l.version, .slice y1 m1 c1, .slice y2 m2 c2, .slice y3 m3 c3, .slice y4 m4 c4, .slice y5 m5 c5, .slice y6 m6 c6] w1) := Lib.hid ((Ck.new _ _).step (q1.below _)))
      | (go_at_call 17
         have _t := C1
         with_reducible refine (must_yes _ _ _ _ _).mono ?_
         rintro e w2 ⟨rfl, b2⟩
         have C2 : Hid (Ck w #[.string l.name, .int .i64 l.version, .slice y1 m1 c1, .slice y2 m2 c2, .slice y3 m3 c3, .slice y4 m4 c4, .slice y5 m5 c5, .slice y6 m6 c6] w2) := Lib.hid (C1.out.step b2)
         have d2 : w2.cell? ⟨w.heap.size, 1, none⟩ = some (.int .i64 l.version) := C2.out.box.cell rfl
         clear C1 _t)
      | (go_at_call 17
         have _t := C2
         with_reducible refine (must_yes _ _ _ _ _).mono ?_
         rintro e w3 ⟨rfl, b3⟩
         have C3 : Hid (Ck w #[.string l.name, .int .i64 l.version, .slice y1 m1 c1, .slice y2 m2 c2, .slice y3 m3 c3, .slice y4 m4 c4, .slice y5 m5 c5, .slice y6 m6 c6] w3) := Lib.hid (C2.out.step b3)
         have d3 : w3.cell? ⟨w.heap.size, 2, none⟩ = some (.slice y1 m1 c1) := C3.out.box.cell rfl
         clear C2 _t)
      | (go_at_call 19
         have hBW := HW.out.trans (C3.out.low.mono HW.out.size)
         with_reducible refine (eachN_text _ w.heap.size (S1.out.keep (fun _ hp => hBW.cell hp) (fun _ _ r => r) hBW.size) (C3.out.box.cell rfl) (C3.out.box.cell rfl) H1.out).mono ?_
         rintro e w4 ⟨rfl, b4⟩
         have C4 : Hid (Ck w #[.string l.name, .int .i64 l.version, .slice y1 m1 c1, .slice y2 m2 c2, .slice y3 m3 c3, .slice y4 m4 c4, .slice y5 m5 c5, .slice y6 m6 c6] w4) := Lib.hid (C3.out.step b4)
         have d4 : w4.cell? ⟨w.heap.size, 3, none⟩ = some (.slice y2 m2 c2) := C4.out.box.cell rfl)
      | (go_at_call 23
         have hBW := HW.out.trans (C4.out.low.mono HW.out.size)
         with_reducible refine (eachT_concept _ w.heap.size k p en (S2.out.keep (fun _ hp => hBW.cell hp) (fun _ _ r => r.keep (fun _ hp => hBW.cell hp) hBW.size) hBW.size) (C4.out.box.cell rfl) (C4.out.box.cell rfl) H2.out).mono ?_
         rintro e w5 ⟨rfl, b5⟩
         have C5 : Hid (Ck w #[.string l.name, .int .i64 l.version, .slice y1 m1 c1, .slice y2 m2 c2, .slice y3 m3 c3, .slice y4 m4 c4, .slice y5 m5 c5, .slice y6 m6 c6] w5) := Lib.hid (C4.out.step b5)
         have d5 : w5.cell? ⟨w.heap.size, 4, none⟩ = some (.slice y3 m3 c3) := C5.out.box.cell rfl))
    refine leaves_cons (f := 16) (args := #[.pointer (some ⟨w.heap.size + 1, 0, none⟩)]) (by simp) (by simp [go_sem]) ?_
    refine (catch_thrown (w.heap.size + 1) 2 (k : Int) (p : Int) (en : Int) 0 0 0 0 [] _ C5.out.fb).mono ?_
    rintro e u' wf ⟨rfl, rfl, hBf, hKf⟩
    have z0 : wf.cell? ⟨w.heap.size + 1, 0, none⟩ = _ := hKf.cell rfl
    have z1 : wf.cell? ⟨w.heap.size + 1, 1, none⟩ = _ := hKf.cell rfl
    have z2 : wf.cell? ⟨w.heap.size + 1, 2, none⟩ = _ := hKf.cell rfl
    have z3 : wf.cell? ⟨w.heap.size + 1, 3, none⟩ = _ := hKf.cell rfl
    have HF : Hid (Below w.heap.size w wf) := Lib.hid (C5.out.low.trans (hBf.mono (Nat.le_succ _)))
    simp [Leaves, settle, results, Tryz.results7, go_sem, z0, z1, z2, z3]
    exact HF.out
  have H2 := Lib.hid h2
  rcases h3 : eachE 256 (ruleE l.rules) 0 l.rules with _ | ⟨k, p, en⟩
  rotate_left
  · have hv : checkE l = ⟨3, k, p, en⟩ := by unfold checkE; rw [if_neg (by rw [hA]; simp), if_neg hV]; simp only [h1, h2, h3]; rfl
    rw [hv]; clear hv
    have H3 := Lib.hid h3
    clear hA h1 h2 h3
    go_enter_defers Tryz.func7, Tryz.ntmps7
    go_wp2_with (first
      | (go_at_call 18
         with_reducible refine (RR.out _).mono ?_
         rintro e w1 ⟨rfl, q1⟩
         have C1 : Hid (Ck w #[.string l.name, .int .i64 l.version, .slice y1 m1 c1, .slice y2 m2 c2, .slice y3 m3 c3, .slice y4 m4 c4, .slice y5 m5 c5, .slice y6 m6 c6] w1) := Lib.hid ((Ck.new _ _).step (q1.below _)))
      | (go_at_call 17
         have _t := C1
         with_reducible refine (must_yes _ _ _ _ _).mono ?_
         rintro e w2 ⟨rfl, b2⟩
         have C2 : Hid (Ck w #[.string l.name, .int .i64 l.version, .slice y1 m1 c1, .slice y2 m2 c2, .slice y3 m3 c3, .slice y4 m4 c4, .slice y5 m5 c5, .slice y6 m6 c6] w2) := Lib.hid (C1.out.step b2)
         have d2 : w2.cell? ⟨w.heap.size, 1, none⟩ = some (.int .i64 l.version) := C2.out.box.cell rfl
         clear C1 _t)
      | (go_at_call 17
         have _t := C2
         with_reducible refine (must_yes _ _ _ _ _).mono ?_
         rintro e w3 ⟨rfl, b3⟩
         have C3 : Hid (Ck w #[.string l.name, .int .i64 l.version, .slice y1 m1 c1, .slice y2 m2 c2, .slice y3 m3 c3, .slice y4 m4 c4, .slice y5 m5 c5, .slice y6 m6 c6] w3) := Lib.hid (C2.out.step b3)
         have d3 : w3.cell? ⟨w.heap.size, 2, none⟩ = some (.slice y1 m1 c1) := C3.out.box.cell rfl
         clear C2 _t)
      | (go_at_call 19
         have hBW := HW.out.trans (C3.out.low.mono HW.out.size)
         with_reducible refine (eachN_text _ w.heap.size (S1.out.keep (fun _ hp => hBW.cell hp) (fun _ _ r => r) hBW.size) (C3.out.box.cell rfl) (C3.out.box.cell rfl) H1.out).mono ?_
         rintro e w4 ⟨rfl, b4⟩
         have C4 : Hid (Ck w #[.string l.name, .int .i64 l.version, .slice y1 m1 c1, .slice y2 m2 c2, .slice y3 m3 c3, .slice y4 m4 c4, .slice y5 m5 c5, .slice y6 m6 c6] w4) := Lib.hid (C3.out.step b4)
         have d4 : w4.cell? ⟨w.heap.size, 3, none⟩ = some (.slice y2 m2 c2) := C4.out.box.cell rfl)
      | (go_at_call 23
         have hBW := HW.out.trans (C4.out.low.mono HW.out.size)
         with_reducible refine (eachN_concept _ w.heap.size (S2.out.keep (fun _ hp => hBW.cell hp) (fun _ _ r => r.keep (fun _ hp => hBW.cell hp) hBW.size) hBW.size) (C4.out.box.cell rfl) (C4.out.box.cell rfl) H2.out).mono ?_
         rintro e w5 ⟨rfl, b5⟩
         have C5 : Hid (Ck w #[.string l.name, .int .i64 l.version, .slice y1 m1 c1, .slice y2 m2 c2, .slice y3 m3 c3, .slice y4 m4 c4, .slice y5 m5 c5, .slice y6 m6 c6] w5) := Lib.hid (C4.out.step b5)
         have d5 : w5.cell? ⟨w.heap.size, 4, none⟩ = some (.slice y3 m3 c3) := C5.out.box.cell rfl)
      | (go_at_call 26
         have hBW := HW.out.trans (C5.out.low.mono HW.out.size)
         with_reducible refine (eachT_rule _ w.heap.size k p en (S3.out.keep (fun _ hp => hBW.cell hp) (fun _ _ r => r) hBW.size) (C5.out.box.cell rfl) (C5.out.box.cell rfl) H3.out).mono ?_
         rintro e w6 ⟨rfl, b6⟩
         have C6 : Hid (Ck w #[.string l.name, .int .i64 l.version, .slice y1 m1 c1, .slice y2 m2 c2, .slice y3 m3 c3, .slice y4 m4 c4, .slice y5 m5 c5, .slice y6 m6 c6] w6) := Lib.hid (C5.out.step b6)
         have d6 : w6.cell? ⟨w.heap.size, 5, none⟩ = some (.slice y4 m4 c4) := C6.out.box.cell rfl))
    refine leaves_cons (f := 16) (args := #[.pointer (some ⟨w.heap.size + 1, 0, none⟩)]) (by simp) (by simp [go_sem]) ?_
    refine (catch_thrown (w.heap.size + 1) 3 (k : Int) (p : Int) (en : Int) 0 0 0 0 [] _ C6.out.fb).mono ?_
    rintro e u' wf ⟨rfl, rfl, hBf, hKf⟩
    have z0 : wf.cell? ⟨w.heap.size + 1, 0, none⟩ = _ := hKf.cell rfl
    have z1 : wf.cell? ⟨w.heap.size + 1, 1, none⟩ = _ := hKf.cell rfl
    have z2 : wf.cell? ⟨w.heap.size + 1, 2, none⟩ = _ := hKf.cell rfl
    have z3 : wf.cell? ⟨w.heap.size + 1, 3, none⟩ = _ := hKf.cell rfl
    have HF : Hid (Below w.heap.size w wf) := Lib.hid (C6.out.low.trans (hBf.mono (Nat.le_succ _)))
    simp [Leaves, settle, results, Tryz.results7, go_sem, z0, z1, z2, z3]
    exact HF.out
  have H3 := Lib.hid h3
  rcases h4 : eachE 256 (equationE) 0 l.equations with _ | ⟨k, p, en⟩
  rotate_left
  · have hv : checkE l = ⟨4, k, p, en⟩ := by unfold checkE; rw [if_neg (by rw [hA]; simp), if_neg hV]; simp only [h1, h2, h3, h4]; rfl
    rw [hv]; clear hv
    have H4 := Lib.hid h4
    clear hA h1 h2 h3 h4
    go_enter_defers Tryz.func7, Tryz.ntmps7
    go_wp2_with (first
      | (go_at_call 18
         with_reducible refine (RR.out _).mono ?_
         rintro e w1 ⟨rfl, q1⟩
         have C1 : Hid (Ck w #[.string l.name, .int .i64 l.version, .slice y1 m1 c1, .slice y2 m2 c2, .slice y3 m3 c3, .slice y4 m4 c4, .slice y5 m5 c5, .slice y6 m6 c6] w1) := Lib.hid ((Ck.new _ _).step (q1.below _)))
      | (go_at_call 17
         have _t := C1
         with_reducible refine (must_yes _ _ _ _ _).mono ?_
         rintro e w2 ⟨rfl, b2⟩
         have C2 : Hid (Ck w #[.string l.name, .int .i64 l.version, .slice y1 m1 c1, .slice y2 m2 c2, .slice y3 m3 c3, .slice y4 m4 c4, .slice y5 m5 c5, .slice y6 m6 c6] w2) := Lib.hid (C1.out.step b2)
         have d2 : w2.cell? ⟨w.heap.size, 1, none⟩ = some (.int .i64 l.version) := C2.out.box.cell rfl
         clear C1 _t)
      | (go_at_call 17
         have _t := C2
         with_reducible refine (must_yes _ _ _ _ _).mono ?_
         rintro e w3 ⟨rfl, b3⟩
         have C3 : Hid (Ck w #[.string l.name, .int .i64 l.version, .slice y1 m1 c1, .slice y2 m2 c2, .slice y3 m3 c3, .slice y4 m4 c4, .slice y5 m5 c5, .slice y6 m6 c6] w3) := Lib.hid (C2.out.step b3)
         have d3 : w3.cell? ⟨w.heap.size, 2, none⟩ = some (.slice y1 m1 c1) := C3.out.box.cell rfl
         clear C2 _t)
      | (go_at_call 19
         have hBW := HW.out.trans (C3.out.low.mono HW.out.size)
         with_reducible refine (eachN_text _ w.heap.size (S1.out.keep (fun _ hp => hBW.cell hp) (fun _ _ r => r) hBW.size) (C3.out.box.cell rfl) (C3.out.box.cell rfl) H1.out).mono ?_
         rintro e w4 ⟨rfl, b4⟩
         have C4 : Hid (Ck w #[.string l.name, .int .i64 l.version, .slice y1 m1 c1, .slice y2 m2 c2, .slice y3 m3 c3, .slice y4 m4 c4, .slice y5 m5 c5, .slice y6 m6 c6] w4) := Lib.hid (C3.out.step b4)
         have d4 : w4.cell? ⟨w.heap.size, 3, none⟩ = some (.slice y2 m2 c2) := C4.out.box.cell rfl)
      | (go_at_call 23
         have hBW := HW.out.trans (C4.out.low.mono HW.out.size)
         with_reducible refine (eachN_concept _ w.heap.size (S2.out.keep (fun _ hp => hBW.cell hp) (fun _ _ r => r.keep (fun _ hp => hBW.cell hp) hBW.size) hBW.size) (C4.out.box.cell rfl) (C4.out.box.cell rfl) H2.out).mono ?_
         rintro e w5 ⟨rfl, b5⟩
         have C5 : Hid (Ck w #[.string l.name, .int .i64 l.version, .slice y1 m1 c1, .slice y2 m2 c2, .slice y3 m3 c3, .slice y4 m4 c4, .slice y5 m5 c5, .slice y6 m6 c6] w5) := Lib.hid (C4.out.step b5)
         have d5 : w5.cell? ⟨w.heap.size, 4, none⟩ = some (.slice y3 m3 c3) := C5.out.box.cell rfl)
      | (go_at_call 26
         have hBW := HW.out.trans (C5.out.low.mono HW.out.size)
         with_reducible refine (eachN_rule _ w.heap.size (S3.out.keep (fun _ hp => hBW.cell hp) (fun _ _ r => r) hBW.size) (C5.out.box.cell rfl) (C5.out.box.cell rfl) H3.out).mono ?_
         rintro e w6 ⟨rfl, b6⟩
         have C6 : Hid (Ck w #[.string l.name, .int .i64 l.version, .slice y1 m1 c1, .slice y2 m2 c2, .slice y3 m3 c3, .slice y4 m4 c4, .slice y5 m5 c5, .slice y6 m6 c6] w6) := Lib.hid (C5.out.step b6)
         have d6 : w6.cell? ⟨w.heap.size, 5, none⟩ = some (.slice y4 m4 c4) := C6.out.box.cell rfl)
      | (go_at_call 30
         have hBW := HW.out.trans (C6.out.low.mono HW.out.size)
         with_reducible refine (eachT_equation _ w.heap.size k p en (S4.out.keep (fun _ hp => hBW.cell hp) (fun _ _ r => r.keep (fun _ hp => hBW.cell hp) hBW.size) hBW.size) (C6.out.box.cell rfl) (C6.out.box.cell rfl) H4.out).mono ?_
         rintro e w7 ⟨rfl, b7⟩
         have C7 : Hid (Ck w #[.string l.name, .int .i64 l.version, .slice y1 m1 c1, .slice y2 m2 c2, .slice y3 m3 c3, .slice y4 m4 c4, .slice y5 m5 c5, .slice y6 m6 c6] w7) := Lib.hid (C6.out.step b7)
         have d7 : w7.cell? ⟨w.heap.size, 6, none⟩ = some (.slice y5 m5 c5) := C7.out.box.cell rfl))
    refine leaves_cons (f := 16) (args := #[.pointer (some ⟨w.heap.size + 1, 0, none⟩)]) (by simp) (by simp [go_sem]) ?_
    refine (catch_thrown (w.heap.size + 1) 4 (k : Int) (p : Int) (en : Int) 0 0 0 0 [] _ C7.out.fb).mono ?_
    rintro e u' wf ⟨rfl, rfl, hBf, hKf⟩
    have z0 : wf.cell? ⟨w.heap.size + 1, 0, none⟩ = _ := hKf.cell rfl
    have z1 : wf.cell? ⟨w.heap.size + 1, 1, none⟩ = _ := hKf.cell rfl
    have z2 : wf.cell? ⟨w.heap.size + 1, 2, none⟩ = _ := hKf.cell rfl
    have z3 : wf.cell? ⟨w.heap.size + 1, 3, none⟩ = _ := hKf.cell rfl
    have HF : Hid (Below w.heap.size w wf) := Lib.hid (C7.out.low.trans (hBf.mono (Nat.le_succ _)))
    simp [Leaves, settle, results, Tryz.results7, go_sem, z0, z1, z2, z3]
    exact HF.out
  have H4 := Lib.hid h4
  rcases h5 : eachE 256 (editorE l.editors) 0 l.editors with _ | ⟨k, p, en⟩
  rotate_left
  · have hv : checkE l = ⟨5, k, p, en⟩ := by unfold checkE; rw [if_neg (by rw [hA]; simp), if_neg hV]; simp only [h1, h2, h3, h4, h5]; rfl
    rw [hv]; clear hv
    have H5 := Lib.hid h5
    clear hA h1 h2 h3 h4 h5
    go_enter_defers Tryz.func7, Tryz.ntmps7
    go_wp2_with (first
      | (go_at_call 18
         with_reducible refine (RR.out _).mono ?_
         rintro e w1 ⟨rfl, q1⟩
         have C1 : Hid (Ck w #[.string l.name, .int .i64 l.version, .slice y1 m1 c1, .slice y2 m2 c2, .slice y3 m3 c3, .slice y4 m4 c4, .slice y5 m5 c5, .slice y6 m6 c6] w1) := Lib.hid ((Ck.new _ _).step (q1.below _)))
      | (go_at_call 17
         have _t := C1
         with_reducible refine (must_yes _ _ _ _ _).mono ?_
         rintro e w2 ⟨rfl, b2⟩
         have C2 : Hid (Ck w #[.string l.name, .int .i64 l.version, .slice y1 m1 c1, .slice y2 m2 c2, .slice y3 m3 c3, .slice y4 m4 c4, .slice y5 m5 c5, .slice y6 m6 c6] w2) := Lib.hid (C1.out.step b2)
         have d2 : w2.cell? ⟨w.heap.size, 1, none⟩ = some (.int .i64 l.version) := C2.out.box.cell rfl
         clear C1 _t)
      | (go_at_call 17
         have _t := C2
         with_reducible refine (must_yes _ _ _ _ _).mono ?_
         rintro e w3 ⟨rfl, b3⟩
         have C3 : Hid (Ck w #[.string l.name, .int .i64 l.version, .slice y1 m1 c1, .slice y2 m2 c2, .slice y3 m3 c3, .slice y4 m4 c4, .slice y5 m5 c5, .slice y6 m6 c6] w3) := Lib.hid (C2.out.step b3)
         have d3 : w3.cell? ⟨w.heap.size, 2, none⟩ = some (.slice y1 m1 c1) := C3.out.box.cell rfl
         clear C2 _t)
      | (go_at_call 19
         have hBW := HW.out.trans (C3.out.low.mono HW.out.size)
         with_reducible refine (eachN_text _ w.heap.size (S1.out.keep (fun _ hp => hBW.cell hp) (fun _ _ r => r) hBW.size) (C3.out.box.cell rfl) (C3.out.box.cell rfl) H1.out).mono ?_
         rintro e w4 ⟨rfl, b4⟩
         have C4 : Hid (Ck w #[.string l.name, .int .i64 l.version, .slice y1 m1 c1, .slice y2 m2 c2, .slice y3 m3 c3, .slice y4 m4 c4, .slice y5 m5 c5, .slice y6 m6 c6] w4) := Lib.hid (C3.out.step b4)
         have d4 : w4.cell? ⟨w.heap.size, 3, none⟩ = some (.slice y2 m2 c2) := C4.out.box.cell rfl)
      | (go_at_call 23
         have hBW := HW.out.trans (C4.out.low.mono HW.out.size)
         with_reducible refine (eachN_concept _ w.heap.size (S2.out.keep (fun _ hp => hBW.cell hp) (fun _ _ r => r.keep (fun _ hp => hBW.cell hp) hBW.size) hBW.size) (C4.out.box.cell rfl) (C4.out.box.cell rfl) H2.out).mono ?_
         rintro e w5 ⟨rfl, b5⟩
         have C5 : Hid (Ck w #[.string l.name, .int .i64 l.version, .slice y1 m1 c1, .slice y2 m2 c2, .slice y3 m3 c3, .slice y4 m4 c4, .slice y5 m5 c5, .slice y6 m6 c6] w5) := Lib.hid (C4.out.step b5)
         have d5 : w5.cell? ⟨w.heap.size, 4, none⟩ = some (.slice y3 m3 c3) := C5.out.box.cell rfl)
      | (go_at_call 26
         have hBW := HW.out.trans (C5.out.low.mono HW.out.size)
         with_reducible refine (eachN_rule _ w.heap.size (S3.out.keep (fun _ hp => hBW.cell hp) (fun _ _ r => r) hBW.size) (C5.out.box.cell rfl) (C5.out.box.cell rfl) H3.out).mono ?_
         rintro e w6 ⟨rfl, b6⟩
         have C6 : Hid (Ck w #[.string l.name, .int .i64 l.version, .slice y1 m1 c1, .slice y2 m2 c2, .slice y3 m3 c3, .slice y4 m4 c4, .slice y5 m5 c5, .slice y6 m6 c6] w6) := Lib.hid (C5.out.step b6)
         have d6 : w6.cell? ⟨w.heap.size, 5, none⟩ = some (.slice y4 m4 c4) := C6.out.box.cell rfl)
      | (go_at_call 30
         have hBW := HW.out.trans (C6.out.low.mono HW.out.size)
         with_reducible refine (eachN_equation _ w.heap.size (S4.out.keep (fun _ hp => hBW.cell hp) (fun _ _ r => r.keep (fun _ hp => hBW.cell hp) hBW.size) hBW.size) (C6.out.box.cell rfl) (C6.out.box.cell rfl) H4.out).mono ?_
         rintro e w7 ⟨rfl, b7⟩
         have C7 : Hid (Ck w #[.string l.name, .int .i64 l.version, .slice y1 m1 c1, .slice y2 m2 c2, .slice y3 m3 c3, .slice y4 m4 c4, .slice y5 m5 c5, .slice y6 m6 c6] w7) := Lib.hid (C6.out.step b7)
         have d7 : w7.cell? ⟨w.heap.size, 6, none⟩ = some (.slice y5 m5 c5) := C7.out.box.cell rfl)
      | (go_at_call 33
         have hBW := HW.out.trans (C7.out.low.mono HW.out.size)
         with_reducible refine (eachT_editor _ w.heap.size k p en (S5.out.keep (fun _ hp => hBW.cell hp) (fun _ _ r => r.keep (fun _ hp => hBW.cell hp) hBW.size) hBW.size) (C7.out.box.cell rfl) (C7.out.box.cell rfl) H5.out).mono ?_
         rintro e w8 ⟨rfl, b8⟩
         have C8 : Hid (Ck w #[.string l.name, .int .i64 l.version, .slice y1 m1 c1, .slice y2 m2 c2, .slice y3 m3 c3, .slice y4 m4 c4, .slice y5 m5 c5, .slice y6 m6 c6] w8) := Lib.hid (C7.out.step b8)
         have d8 : w8.cell? ⟨w.heap.size, 7, none⟩ = some (.slice y6 m6 c6) := C8.out.box.cell rfl))
    refine leaves_cons (f := 16) (args := #[.pointer (some ⟨w.heap.size + 1, 0, none⟩)]) (by simp) (by simp [go_sem]) ?_
    refine (catch_thrown (w.heap.size + 1) 5 (k : Int) (p : Int) (en : Int) 0 0 0 0 [] _ C8.out.fb).mono ?_
    rintro e u' wf ⟨rfl, rfl, hBf, hKf⟩
    have z0 : wf.cell? ⟨w.heap.size + 1, 0, none⟩ = _ := hKf.cell rfl
    have z1 : wf.cell? ⟨w.heap.size + 1, 1, none⟩ = _ := hKf.cell rfl
    have z2 : wf.cell? ⟨w.heap.size + 1, 2, none⟩ = _ := hKf.cell rfl
    have z3 : wf.cell? ⟨w.heap.size + 1, 3, none⟩ = _ := hKf.cell rfl
    have HF : Hid (Below w.heap.size w wf) := Lib.hid (C8.out.low.trans (hBf.mono (Nat.le_succ _)))
    simp [Leaves, settle, results, Tryz.results7, go_sem, z0, z1, z2, z3]
    exact HF.out
  have H5 := Lib.hid h5
  rcases h6 : eachE 256 (templateE l.templates) 0 l.templates with _ | ⟨k, p, en⟩
  rotate_left
  · have hv : checkE l = ⟨6, k, p, en⟩ := by unfold checkE; rw [if_neg (by rw [hA]; simp), if_neg hV]; simp only [h1, h2, h3, h4, h5, h6]; rfl
    rw [hv]; clear hv
    have H6 := Lib.hid h6
    clear hA h1 h2 h3 h4 h5 h6
    go_enter_defers Tryz.func7, Tryz.ntmps7
    go_wp2_with (first
      | (go_at_call 18
         with_reducible refine (RR.out _).mono ?_
         rintro e w1 ⟨rfl, q1⟩
         have C1 : Hid (Ck w #[.string l.name, .int .i64 l.version, .slice y1 m1 c1, .slice y2 m2 c2, .slice y3 m3 c3, .slice y4 m4 c4, .slice y5 m5 c5, .slice y6 m6 c6] w1) := Lib.hid ((Ck.new _ _).step (q1.below _)))
      | (go_at_call 17
         have _t := C1
         with_reducible refine (must_yes _ _ _ _ _).mono ?_
         rintro e w2 ⟨rfl, b2⟩
         have C2 : Hid (Ck w #[.string l.name, .int .i64 l.version, .slice y1 m1 c1, .slice y2 m2 c2, .slice y3 m3 c3, .slice y4 m4 c4, .slice y5 m5 c5, .slice y6 m6 c6] w2) := Lib.hid (C1.out.step b2)
         have d2 : w2.cell? ⟨w.heap.size, 1, none⟩ = some (.int .i64 l.version) := C2.out.box.cell rfl
         clear C1 _t)
      | (go_at_call 17
         have _t := C2
         with_reducible refine (must_yes _ _ _ _ _).mono ?_
         rintro e w3 ⟨rfl, b3⟩
         have C3 : Hid (Ck w #[.string l.name, .int .i64 l.version, .slice y1 m1 c1, .slice y2 m2 c2, .slice y3 m3 c3, .slice y4 m4 c4, .slice y5 m5 c5, .slice y6 m6 c6] w3) := Lib.hid (C2.out.step b3)
         have d3 : w3.cell? ⟨w.heap.size, 2, none⟩ = some (.slice y1 m1 c1) := C3.out.box.cell rfl
         clear C2 _t)
      | (go_at_call 19
         have hBW := HW.out.trans (C3.out.low.mono HW.out.size)
         with_reducible refine (eachN_text _ w.heap.size (S1.out.keep (fun _ hp => hBW.cell hp) (fun _ _ r => r) hBW.size) (C3.out.box.cell rfl) (C3.out.box.cell rfl) H1.out).mono ?_
         rintro e w4 ⟨rfl, b4⟩
         have C4 : Hid (Ck w #[.string l.name, .int .i64 l.version, .slice y1 m1 c1, .slice y2 m2 c2, .slice y3 m3 c3, .slice y4 m4 c4, .slice y5 m5 c5, .slice y6 m6 c6] w4) := Lib.hid (C3.out.step b4)
         have d4 : w4.cell? ⟨w.heap.size, 3, none⟩ = some (.slice y2 m2 c2) := C4.out.box.cell rfl)
      | (go_at_call 23
         have hBW := HW.out.trans (C4.out.low.mono HW.out.size)
         with_reducible refine (eachN_concept _ w.heap.size (S2.out.keep (fun _ hp => hBW.cell hp) (fun _ _ r => r.keep (fun _ hp => hBW.cell hp) hBW.size) hBW.size) (C4.out.box.cell rfl) (C4.out.box.cell rfl) H2.out).mono ?_
         rintro e w5 ⟨rfl, b5⟩
         have C5 : Hid (Ck w #[.string l.name, .int .i64 l.version, .slice y1 m1 c1, .slice y2 m2 c2, .slice y3 m3 c3, .slice y4 m4 c4, .slice y5 m5 c5, .slice y6 m6 c6] w5) := Lib.hid (C4.out.step b5)
         have d5 : w5.cell? ⟨w.heap.size, 4, none⟩ = some (.slice y3 m3 c3) := C5.out.box.cell rfl)
      | (go_at_call 26
         have hBW := HW.out.trans (C5.out.low.mono HW.out.size)
         with_reducible refine (eachN_rule _ w.heap.size (S3.out.keep (fun _ hp => hBW.cell hp) (fun _ _ r => r) hBW.size) (C5.out.box.cell rfl) (C5.out.box.cell rfl) H3.out).mono ?_
         rintro e w6 ⟨rfl, b6⟩
         have C6 : Hid (Ck w #[.string l.name, .int .i64 l.version, .slice y1 m1 c1, .slice y2 m2 c2, .slice y3 m3 c3, .slice y4 m4 c4, .slice y5 m5 c5, .slice y6 m6 c6] w6) := Lib.hid (C5.out.step b6)
         have d6 : w6.cell? ⟨w.heap.size, 5, none⟩ = some (.slice y4 m4 c4) := C6.out.box.cell rfl)
      | (go_at_call 30
         have hBW := HW.out.trans (C6.out.low.mono HW.out.size)
         with_reducible refine (eachN_equation _ w.heap.size (S4.out.keep (fun _ hp => hBW.cell hp) (fun _ _ r => r.keep (fun _ hp => hBW.cell hp) hBW.size) hBW.size) (C6.out.box.cell rfl) (C6.out.box.cell rfl) H4.out).mono ?_
         rintro e w7 ⟨rfl, b7⟩
         have C7 : Hid (Ck w #[.string l.name, .int .i64 l.version, .slice y1 m1 c1, .slice y2 m2 c2, .slice y3 m3 c3, .slice y4 m4 c4, .slice y5 m5 c5, .slice y6 m6 c6] w7) := Lib.hid (C6.out.step b7)
         have d7 : w7.cell? ⟨w.heap.size, 6, none⟩ = some (.slice y5 m5 c5) := C7.out.box.cell rfl)
      | (go_at_call 33
         have hBW := HW.out.trans (C7.out.low.mono HW.out.size)
         with_reducible refine (eachN_editor _ w.heap.size (S5.out.keep (fun _ hp => hBW.cell hp) (fun _ _ r => r.keep (fun _ hp => hBW.cell hp) hBW.size) hBW.size) (C7.out.box.cell rfl) (C7.out.box.cell rfl) H5.out).mono ?_
         rintro e w8 ⟨rfl, b8⟩
         have C8 : Hid (Ck w #[.string l.name, .int .i64 l.version, .slice y1 m1 c1, .slice y2 m2 c2, .slice y3 m3 c3, .slice y4 m4 c4, .slice y5 m5 c5, .slice y6 m6 c6] w8) := Lib.hid (C7.out.step b8)
         have d8 : w8.cell? ⟨w.heap.size, 7, none⟩ = some (.slice y6 m6 c6) := C8.out.box.cell rfl)
      | (go_at_call 39
         have hBW := HW.out.trans (C8.out.low.mono HW.out.size)
         with_reducible refine (eachT_template _ w.heap.size k p en (S6.out.keep (fun _ hp => hBW.cell hp) (fun _ _ r => r.keep (fun _ hp => hBW.cell hp) hBW.size) hBW.size) (C8.out.box.cell rfl) (C8.out.box.cell rfl) H6.out).mono ?_
         rintro e w9 ⟨rfl, b9⟩
         have C9 : Hid (Ck w #[.string l.name, .int .i64 l.version, .slice y1 m1 c1, .slice y2 m2 c2, .slice y3 m3 c3, .slice y4 m4 c4, .slice y5 m5 c5, .slice y6 m6 c6] w9) := Lib.hid (C8.out.step b9)
         skip))
    refine leaves_cons (f := 16) (args := #[.pointer (some ⟨w.heap.size + 1, 0, none⟩)]) (by simp) (by simp [go_sem]) ?_
    refine (catch_thrown (w.heap.size + 1) 6 (k : Int) (p : Int) (en : Int) 0 0 0 0 [] _ C9.out.fb).mono ?_
    rintro e u' wf ⟨rfl, rfl, hBf, hKf⟩
    have z0 : wf.cell? ⟨w.heap.size + 1, 0, none⟩ = _ := hKf.cell rfl
    have z1 : wf.cell? ⟨w.heap.size + 1, 1, none⟩ = _ := hKf.cell rfl
    have z2 : wf.cell? ⟨w.heap.size + 1, 2, none⟩ = _ := hKf.cell rfl
    have z3 : wf.cell? ⟨w.heap.size + 1, 3, none⟩ = _ := hKf.cell rfl
    have HF : Hid (Below w.heap.size w wf) := Lib.hid (C9.out.low.trans (hBf.mono (Nat.le_succ _)))
    simp [Leaves, settle, results, Tryz.results7, go_sem, z0, z1, z2, z3]
    exact HF.out
  have H6 := Lib.hid h6
  have hv : checkE l = ⟨0, 0, 0, 0⟩ := by unfold checkE; rw [if_neg (by rw [hA]; simp), if_neg hV]; simp only [h1, h2, h3, h4, h5, h6]
  rw [hv]; clear hv
  clear hA h1 h2 h3 h4 h5 h6
  go_enter_defers Tryz.func7, Tryz.ntmps7
  go_wp2_with (first
    | (go_at_call 18
       with_reducible refine (RR.out _).mono ?_
       rintro e w1 ⟨rfl, q1⟩
       have C1 : Hid (Ck w #[.string l.name, .int .i64 l.version, .slice y1 m1 c1, .slice y2 m2 c2, .slice y3 m3 c3, .slice y4 m4 c4, .slice y5 m5 c5, .slice y6 m6 c6] w1) := Lib.hid ((Ck.new _ _).step (q1.below _)))
    | (go_at_call 17
       have _t := C1
       with_reducible refine (must_yes _ _ _ _ _).mono ?_
       rintro e w2 ⟨rfl, b2⟩
       have C2 : Hid (Ck w #[.string l.name, .int .i64 l.version, .slice y1 m1 c1, .slice y2 m2 c2, .slice y3 m3 c3, .slice y4 m4 c4, .slice y5 m5 c5, .slice y6 m6 c6] w2) := Lib.hid (C1.out.step b2)
       have d2 : w2.cell? ⟨w.heap.size, 1, none⟩ = some (.int .i64 l.version) := C2.out.box.cell rfl
       clear C1 _t)
    | (go_at_call 17
       have _t := C2
       with_reducible refine (must_yes _ _ _ _ _).mono ?_
       rintro e w3 ⟨rfl, b3⟩
       have C3 : Hid (Ck w #[.string l.name, .int .i64 l.version, .slice y1 m1 c1, .slice y2 m2 c2, .slice y3 m3 c3, .slice y4 m4 c4, .slice y5 m5 c5, .slice y6 m6 c6] w3) := Lib.hid (C2.out.step b3)
       have d3 : w3.cell? ⟨w.heap.size, 2, none⟩ = some (.slice y1 m1 c1) := C3.out.box.cell rfl
       clear C2 _t)
    | (go_at_call 19
       have hBW := HW.out.trans (C3.out.low.mono HW.out.size)
       with_reducible refine (eachN_text _ w.heap.size (S1.out.keep (fun _ hp => hBW.cell hp) (fun _ _ r => r) hBW.size) (C3.out.box.cell rfl) (C3.out.box.cell rfl) H1.out).mono ?_
       rintro e w4 ⟨rfl, b4⟩
       have C4 : Hid (Ck w #[.string l.name, .int .i64 l.version, .slice y1 m1 c1, .slice y2 m2 c2, .slice y3 m3 c3, .slice y4 m4 c4, .slice y5 m5 c5, .slice y6 m6 c6] w4) := Lib.hid (C3.out.step b4)
       have d4 : w4.cell? ⟨w.heap.size, 3, none⟩ = some (.slice y2 m2 c2) := C4.out.box.cell rfl)
    | (go_at_call 23
       have hBW := HW.out.trans (C4.out.low.mono HW.out.size)
       with_reducible refine (eachN_concept _ w.heap.size (S2.out.keep (fun _ hp => hBW.cell hp) (fun _ _ r => r.keep (fun _ hp => hBW.cell hp) hBW.size) hBW.size) (C4.out.box.cell rfl) (C4.out.box.cell rfl) H2.out).mono ?_
       rintro e w5 ⟨rfl, b5⟩
       have C5 : Hid (Ck w #[.string l.name, .int .i64 l.version, .slice y1 m1 c1, .slice y2 m2 c2, .slice y3 m3 c3, .slice y4 m4 c4, .slice y5 m5 c5, .slice y6 m6 c6] w5) := Lib.hid (C4.out.step b5)
       have d5 : w5.cell? ⟨w.heap.size, 4, none⟩ = some (.slice y3 m3 c3) := C5.out.box.cell rfl)
    | (go_at_call 26
       have hBW := HW.out.trans (C5.out.low.mono HW.out.size)
       with_reducible refine (eachN_rule _ w.heap.size (S3.out.keep (fun _ hp => hBW.cell hp) (fun _ _ r => r) hBW.size) (C5.out.box.cell rfl) (C5.out.box.cell rfl) H3.out).mono ?_
       rintro e w6 ⟨rfl, b6⟩
       have C6 : Hid (Ck w #[.string l.name, .int .i64 l.version, .slice y1 m1 c1, .slice y2 m2 c2, .slice y3 m3 c3, .slice y4 m4 c4, .slice y5 m5 c5, .slice y6 m6 c6] w6) := Lib.hid (C5.out.step b6)
       have d6 : w6.cell? ⟨w.heap.size, 5, none⟩ = some (.slice y4 m4 c4) := C6.out.box.cell rfl)
    | (go_at_call 30
       have hBW := HW.out.trans (C6.out.low.mono HW.out.size)
       with_reducible refine (eachN_equation _ w.heap.size (S4.out.keep (fun _ hp => hBW.cell hp) (fun _ _ r => r.keep (fun _ hp => hBW.cell hp) hBW.size) hBW.size) (C6.out.box.cell rfl) (C6.out.box.cell rfl) H4.out).mono ?_
       rintro e w7 ⟨rfl, b7⟩
       have C7 : Hid (Ck w #[.string l.name, .int .i64 l.version, .slice y1 m1 c1, .slice y2 m2 c2, .slice y3 m3 c3, .slice y4 m4 c4, .slice y5 m5 c5, .slice y6 m6 c6] w7) := Lib.hid (C6.out.step b7)
       have d7 : w7.cell? ⟨w.heap.size, 6, none⟩ = some (.slice y5 m5 c5) := C7.out.box.cell rfl)
    | (go_at_call 33
       have hBW := HW.out.trans (C7.out.low.mono HW.out.size)
       with_reducible refine (eachN_editor _ w.heap.size (S5.out.keep (fun _ hp => hBW.cell hp) (fun _ _ r => r.keep (fun _ hp => hBW.cell hp) hBW.size) hBW.size) (C7.out.box.cell rfl) (C7.out.box.cell rfl) H5.out).mono ?_
       rintro e w8 ⟨rfl, b8⟩
       have C8 : Hid (Ck w #[.string l.name, .int .i64 l.version, .slice y1 m1 c1, .slice y2 m2 c2, .slice y3 m3 c3, .slice y4 m4 c4, .slice y5 m5 c5, .slice y6 m6 c6] w8) := Lib.hid (C7.out.step b8)
       have d8 : w8.cell? ⟨w.heap.size, 7, none⟩ = some (.slice y6 m6 c6) := C8.out.box.cell rfl)
    | (go_at_call 39
       have hBW := HW.out.trans (C8.out.low.mono HW.out.size)
       with_reducible refine (eachN_template _ w.heap.size (S6.out.keep (fun _ hp => hBW.cell hp) (fun _ _ r => r.keep (fun _ hp => hBW.cell hp) hBW.size) hBW.size) (C8.out.box.cell rfl) (C8.out.box.cell rfl) H6.out).mono ?_
       rintro e w9 ⟨rfl, b9⟩
       have C9 : Hid (Ck w #[.string l.name, .int .i64 l.version, .slice y1 m1 c1, .slice y2 m2 c2, .slice y3 m3 c3, .slice y4 m4 c4, .slice y5 m5 c5, .slice y6 m6 c6] w9) := Lib.hid (C8.out.step b9)
       have z0 : w9.cell? ⟨w.heap.size + 1, 0, none⟩ = some (.int .i64 0) := C9.out.fb.cell rfl
       have z1 : w9.cell? ⟨w.heap.size + 1, 1, none⟩ = some (.int .i64 0) := C9.out.fb.cell rfl
       have z2 : w9.cell? ⟨w.heap.size + 1, 2, none⟩ = some (.int .i64 0) := C9.out.fb.cell rfl
       have z3 : w9.cell? ⟨w.heap.size + 1, 3, none⟩ = some (.int .i64 0) := C9.out.fb.cell rfl
       have f0 := C9.out.fb.frozen 0
       have f1 := C9.out.fb.frozen 1
       have f2 := C9.out.fb.frozen 2
       have f3 := C9.out.fb.frozen 3))
  refine leaves_cons (f := 16) (args := #[.pointer (some ⟨w.heap.size + 1, 0, none⟩)]) (by simp) (by simp [go_sem]) ?_
  refine (catch_idle (w.heap.size + 1) _).mono ?_
  rintro e u' wf ⟨rfl, rfl, rfl⟩
  have lf := C9.out.fb.lt
  have HF : Hid (Below w.heap.size w ((((w9.setCell ⟨w.heap.size + 1, 0, none⟩ (.int .i64 0)).setCell ⟨w.heap.size + 1, 1, none⟩ (.int .i64 0)).setCell ⟨w.heap.size + 1, 2, none⟩ (.int .i64 0)).setCell ⟨w.heap.size + 1, 3, none⟩ (.int .i64 0))) := Lib.hid ((((C9.out.low.setCell (p := ⟨w.heap.size + 1, 0, none⟩) (Nat.le_succ _) _).setCell (p := ⟨w.heap.size + 1, 1, none⟩) (Nat.le_succ _) _).setCell (p := ⟨w.heap.size + 1, 2, none⟩) (Nat.le_succ _) _).setCell (p := ⟨w.heap.size + 1, 3, none⟩) (Nat.le_succ _) _)
  simp [Leaves, settle, results, Tryz.results7, go_sem, z0, z1, z2, z3]
  exact HF.out
end Go.Proofs.YtdhljfblkidohaaGreat
