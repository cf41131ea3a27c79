/- Searches for a name that is there already; names, said as Bools; what a call leaves of a block that one wrote oneself. -/
import Derived.Test.YtdhljfblkidohaaGreatClos
import Derived.Test.YtdhljfblkidohaaGreatIdx
import Derived.Test.YtdhljfblkidohaaGreatIdx2
import Derived.Test.YtdhljfblkidohaaGreatRight
import Derived.Test.YtdhljfblkidohaaGreatChkPlain
import Derived.DataShut
namespace Go.Proofs.YtdhljfblkidohaaGreat
set_option linter.unusedSimpArgs false
set_option linter.unusedVariables false
open Go.RowKit

theorem right_of (s : ByteArray) (hs : s.size ≤ maxLen) (b : Bool) (h : okName s = b) (W : World) : Calls Tryz.prog 18 #[.string s] W fun e w' => e = .returned (.bool b) ∧ Quiet W w' := h ▸ right_any s hs W
/-- what was there stays, and a block that was written since -/
structure Kept (w : World) (g : Nat) (t : TypeId) (cs : Array Value) (W : World) : Prop where
  low : Below w.heap.size w W
  blk : Blk W g t cs
theorem Kept.new (w : World) (t : TypeId) (cs : Array Value) : Kept w w.heap.size t cs (w.alloc (.cells cs t)) := ⟨(Below.refl _ _).alloc (Nat.le_refl _) _, Blk.new w t cs⟩
section
variable {w W W' : World} {g : Nat} {t : TypeId} {cs : Array Value}
theorem Kept.step (h : Kept w g t cs W) (b : Below W.heap.size W W') : Kept w g t cs W' := ⟨h.low.trans (b.mono h.low.size), h.blk.below b h.blk.lt⟩
theorem Kept.alloc (h : Kept w g t cs W) (o : Obj) : Kept w g t cs (W.alloc o) := ⟨h.low.alloc h.low.size _, h.blk.alloc _⟩
end

/-! '&^ 1' -/
theorem andNot_one (b : BitVec 64) (h : b &&& ~~~1#64 = 0#64) : b.toNat < 2 := by
  apply Nat.lt_pow_two_of_testBit (n := 1)
  intro i hi
  have h1 : (b &&& ~~~1#64).getLsbD i = (0#64).getLsbD i := by rw [h]
  rw [BitVec.testBit_toNat]
  by_cases h64 : i < 64
  · have h0 : (1#64).getLsbD i = false := by
      rw [BitVec.getLsbD_one]
      simp; omega
    rw [BitVec.getLsbD_and, BitVec.getLsbD_not, h0, BitVec.getLsbD_zero] at h1
    simpa [h64] using h1
  · exact BitVec.getLsbD_of_ge b i (by omega)
theorem wrap_zero (r : BitVec 64) : IntKind.i64.wrap (r.toNat : Int) = 0 ↔ r = 0#64 := by
  have hr := r.isLt
  constructor
  · intro h
    apply BitVec.eq_of_toNat_eq
    simp only [IntKind.wrap, IntKind.bits, IntKind.signed] at h
    simp at h
    simp
    split at h <;> omega
  · rintro rfl
    decide
theorem bits_one (x : Int) (h : (Lit.int .i64 x).wf = true) : bits .andNot .i64 x 1 = 0 ↔ x = 0 ∨ x = 1 := by
  have hb := (Lit.wf_int_iff .i64 x).1 h
  simp [IntKind.min, IntKind.max, IntKind.bits, IntKind.signed] at hb
  constructor
  · intro h0
    have h1 := andNot_one (BitVec.ofInt 64 x) ((wrap_zero _).1 h0)
    rw [BitVec.toNat_ofInt] at h1
    omega
  · rintro (rfl | rfl) <;> decide

theorem dup_Concept {l : List Concept} {a : Option Addr} {n c : Nat} (w0 W : World) (q : Nat) (s : ByteArray) (i : Nat) (hs : SlR w0 w0.heap.size 6 (Concept.Is w0 w0.heap.size) (.slice a n c) l) (hw : Below w0.heap.size w0 W) (hq : W.cell? ⟨q, 0, none⟩ = some (.string s)) (hi : i ≤ l.length) (b : Bool)
    (hb : (l.take i).any (fun x => decide (x.name = s)) = b) :
    Calls Tryz.prog 65 #[.slice a i c, .func (.func 66) #[] #[.pointer (some ⟨q, 0, none⟩)]] W fun e w' => e = .returned (.bool b) ∧ Below W.heap.size W w' := by
  subst hb
  exact any_Concept _ _ W W _ (((hs.take hi).below hw).more hw.size) (Below.refl _ _) (fun args w => by go_simp) (fun x y W2 hx h2 => clos_Concept x y W2 hx q s ((h2.cell (cell_lt hq)).trans hq))

theorem dup_PropDef {l : List PropDef} {a : Option Addr} {n c : Nat} (w0 W : World) (q : Nat) (s : ByteArray) (i : Nat) (hs : SlR w0 w0.heap.size 2 PropDef.Is (.slice a n c) l) (hw : Below w0.heap.size w0 W) (hq : W.cell? ⟨q, 0, none⟩ = some (.string s)) (hi : i ≤ l.length) (b : Bool)
    (hb : (l.take i).any (fun x => decide (x.name = s)) = b) :
    Calls Tryz.prog 67 #[.slice a i c, .func (.func 68) #[] #[.pointer (some ⟨q, 0, none⟩)]] W fun e w' => e = .returned (.bool b) ∧ Below W.heap.size W w' := by
  subst hb
  exact any_PropDef _ _ W W _ (((hs.take hi).below hw).more hw.size) (Below.refl _ _) (fun args w => by go_simp) (fun x y W2 hx h2 => clos_PropDef x y W2 hx q s ((h2.cell (cell_lt hq)).trans hq))

theorem dup_KidDef {l : List KidDef} {a : Option Addr} {n c : Nat} (w0 W : World) (q : Nat) (s : ByteArray) (i : Nat) (hs : SlR w0 w0.heap.size 4 KidDef.Is (.slice a n c) l) (hw : Below w0.heap.size w0 W) (hq : W.cell? ⟨q, 0, none⟩ = some (.string s)) (hi : i ≤ l.length) (b : Bool)
    (hb : (l.take i).any (fun x => decide (x.role = s)) = b) :
    Calls Tryz.prog 69 #[.slice a i c, .func (.func 70) #[] #[.pointer (some ⟨q, 0, none⟩)]] W fun e w' => e = .returned (.bool b) ∧ Below W.heap.size W w' := by
  subst hb
  exact any_KidDef _ _ W W _ (((hs.take hi).below hw).more hw.size) (Below.refl _ _) (fun args w => by go_simp) (fun x y W2 hx h2 => clos_KidDef x y W2 hx q s ((h2.cell (cell_lt hq)).trans hq))

theorem dup_RefDef {l : List RefDef} {a : Option Addr} {n c : Nat} (w0 W : World) (q : Nat) (s : ByteArray) (i : Nat) (hs : SlR w0 w0.heap.size 3 RefDef.Is (.slice a n c) l) (hw : Below w0.heap.size w0 W) (hq : W.cell? ⟨q, 0, none⟩ = some (.string s)) (hi : i ≤ l.length) (b : Bool)
    (hb : (l.take i).any (fun x => decide (x.role = s)) = b) :
    Calls Tryz.prog 71 #[.slice a i c, .func (.func 72) #[] #[.pointer (some ⟨q, 0, none⟩)]] W fun e w' => e = .returned (.bool b) ∧ Below W.heap.size W w' := by
  subst hb
  exact any_RefDef _ _ W W _ (((hs.take hi).below hw).more hw.size) (Below.refl _ _) (fun args w => by go_simp) (fun x y W2 hx h2 => clos_RefDef x y W2 hx q s ((h2.cell (cell_lt hq)).trans hq))

theorem dup_Editor {l : List Editor} {a : Option Addr} {n c : Nat} (w0 W : World) (q : Nat) (s : ByteArray) (i : Nat) (hs : SlR w0 w0.heap.size 2 (Editor.Is w0 w0.heap.size) (.slice a n c) l) (hw : Below w0.heap.size w0 W) (hq : W.cell? ⟨q, 0, none⟩ = some (.string s)) (hi : i ≤ l.length) (b : Bool)
    (hb : (l.take i).any (fun x => decide (x.concept = s)) = b) :
    Calls Tryz.prog 35 #[.slice a i c, .func (.func 36) #[] #[.pointer (some ⟨q, 0, none⟩)]] W fun e w' => e = .returned (.bool b) ∧ Below W.heap.size W w' := by
  subst hb
  exact any_Editor _ _ W W _ (((hs.take hi).below hw).more hw.size) (Below.refl _ _) (fun args w => by go_simp) (fun x y W2 hx h2 => clos_Editor x y W2 hx q s ((h2.cell (cell_lt hq)).trans hq))

theorem dup_Template {l : List Template} {a : Option Addr} {n c : Nat} (w0 W : World) (q : Nat) (s : ByteArray) (i : Nat) (hs : SlR w0 w0.heap.size 2 (Template.Is w0 w0.heap.size) (.slice a n c) l) (hw : Below w0.heap.size w0 W) (hq : W.cell? ⟨q, 0, none⟩ = some (.string s)) (hi : i ≤ l.length) (b : Bool)
    (hb : (l.take i).any (fun x => decide (x.concept = s)) = b) :
    Calls Tryz.prog 41 #[.slice a i c, .func (.func 42) #[] #[.pointer (some ⟨q, 0, none⟩)]] W fun e w' => e = .returned (.bool b) ∧ Below W.heap.size W w' := by
  subst hb
  exact any_Template _ _ W W _ (((hs.take hi).below hw).more hw.size) (Below.refl _ _) (fun args w => by go_simp) (fun x y W2 hx h2 => clos_Template x y W2 hx q s ((h2.cell (cell_lt hq)).trans hq))

theorem dup_Rule {l : List Rule} {a : Option Addr} {n c : Nat} (w0 W : World) (q : Nat) (r : Rule) (i : Nat) (hs : SlR w0 w0.heap.size 4 Rule.Is (.slice a n c) l) (hw : Below w0.heap.size w0 W)
    (hq0 : W.cell? ⟨q, 0, none⟩ = some (.string r.concept)) (hq1 : W.cell? ⟨q, 1, none⟩ = some (.string r.name)) (hq2 : W.cell? ⟨q, 2, none⟩ = some (.bool r.scope)) (hi : i ≤ l.length) (b : Bool)
    (hb : (l.take i).any (fun x => decide (x.concept = r.concept) && decide (x.name = r.name) && decide (x.scope = r.scope)) = b) :
    Calls Tryz.prog 28 #[.slice a i c, .func (.func 29) #[] #[.pointer (some ⟨q, 0, none⟩)]] W fun e w' => e = .returned (.bool b) ∧ Below W.heap.size W w' := by
  subst hb
  exact any_Rule _ _ W W _ (((hs.take hi).below hw).more hw.size) (Below.refl _ _) (fun args w => by go_simp) (fun x y W2 hx h2 => clos_Rule x y r W2 hx q ((h2.cell (cell_lt hq0)).trans hq0) ((h2.cell (cell_lt hq1)).trans hq1) ((h2.cell (cell_lt hq2)).trans hq2))
end Go.Proofs.YtdhljfblkidohaaGreat
