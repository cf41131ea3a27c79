/- Rows in blocks of their own: what is known of the places of code, in memory. -/
import Derived.Test.YtdkoafmgenbkbaaDoorCodePlain
namespace Go.Proofs.YtdkoafmgenbkbaaDoor
set_option linter.unusedSimpArgs false
set_option linter.unusedVariables false
open Go.RowKit

/-- a slice from the start of a block of its own type, that reads as a list -/
def RowR {α : Type} (W : World) (t : TypeId) (size : Nat) (R : List Value → α → Prop) (v : Value) (l : List α) : Prop :=
  ∃ (a : Option Addr) (c : Nat), v = .slice a l.length c ∧ l.length ≤ c ∧ c ≤ maxLen ∧
    (0 < l.length → ∃ g cs, a = some ⟨g, 0, none⟩ ∧ Blk W g t cs ∧ ∀ (i : Nat) (y : α), l[i]? = some y → ∃ x : List Value, x.length = size ∧ R x y ∧ ∀ (j : Nat) (u : Value), x[j]? = some u → cs[i * size + j]? = some u)
section
variable {α : Type} {W W' : World} {t : TypeId} {size : Nat} {R : List Value → α → Prop} {v : Value} {l : List α}
theorem RowR.nil_ : RowR W t size R (.slice none 0 0) ([] : List α) := ⟨none, 0, rfl, Nat.zero_le _, by decide, fun h => by simp at h⟩
theorem RowR.form (h : RowR W t size R v l) : ∃ a c, v = .slice a l.length c := by
  obtain ⟨a, c, h1, _⟩ := h
  exact ⟨a, c, h1⟩
theorem RowR.keep (h : RowR W t size R v l) (hk : ∀ g cs, Blk W g t cs → Blk W' g t cs) : RowR W' t size R v l := by
  obtain ⟨a, c, h1, h2, h3, h4⟩ := h
  refine ⟨a, c, h1, h2, h3, fun hn => ?_⟩
  obtain ⟨g, cs, e1, e2, e3⟩ := h4 hn
  exact ⟨g, cs, e1, hk g cs e2, e3⟩
theorem RowR.below (h : RowR W t size R v l) (hb : Below W.heap.size W W') : RowR W' t size R v l := h.keep fun g cs e => e.below hb e.lt
theorem RowR.alloc (h : RowR W t size R v l) (o : Obj) : RowR (W.alloc o) t size R v l := h.keep fun g cs e => e.alloc o
theorem RowR.set_ (h : RowR W t size R v l) {g i : Nat} {t' : TypeId} {cs' : Array Value} (hb : Blk W g t' cs') (hne : t ≠ t') (u : Value) : RowR (W.setCell ⟨g, i, none⟩ u) t size R v l :=
  h.keep fun g' cs e => e.far (p := ⟨g, i, none⟩) (fun e' => by subst e'; unfold Blk at e hb; rw [e] at hb; injection hb with hb; injection hb with _ e2 _; exact hne e2) u
theorem RowR.grown (h : RowR W t size R v l) {g : Nat} {t' : TypeId} {cs' : Array Value} (hg : W.grownBy W' (some g)) (hb : Blk W g t' cs') (hne : t ≠ t') : RowR W' t size R v l :=
  h.keep fun g' cs e => e.grown hg (fun e' => by injection e' with e'; subst e'; unfold Blk at e hb; rw [e] at hb; injection hb with hb; injection hb with _ e2 _; exact hne e2)
theorem RowR.read (h : RowR W t size R v l) : SlR W W.heap.size size R v l := by
  obtain ⟨a, c, h1, h2, h3, h4⟩ := h
  refine ⟨a, c, h1, h2, h3, fun hn => ?_⟩
  obtain ⟨g, cs, e1, e2, e3⟩ := h4 hn
  refine ⟨g, 0, e1, e2.lt, fun i y hy => ?_⟩
  obtain ⟨x, x1, x2, x3⟩ := e3 i y hy
  exact ⟨x, x1, x2, fun j u hu => by rw [Nat.zero_add]; exact e2.cell (x3 j u hu)⟩
theorem RowR.cut {a : Option Addr} {n c : Nat} (h : RowR W t size R (.slice a (n + 1) c) l) : RowR W t size R (.slice a n c) l.dropLast := by
  obtain ⟨a', c', h1, h2, h3, h4⟩ := h
  injection h1 with e1 e2 e3
  subst e1 e3
  have hl : l.dropLast.length = n := by simp; omega
  refine ⟨a, c, by rw [hl], by omega, h3, fun hn => ?_⟩
  obtain ⟨g, cs, e1, e2, e3⟩ := h4 (by omega)
  refine ⟨g, cs, e1, e2, fun i y hy => e3 i y ?_⟩
  rw [List.getElem?_dropLast] at hy
  split at hy
  · exact hy
  · cases hy
theorem RowR.of_own {base : Nat} (h : Own1 W base t size R v l) (hs : 0 < size) : RowR W t size R v l := by
  obtain ⟨xs, ⟨h1, h2⟩, h3, h4⟩ := h
  rcases h2 with ⟨h2, h5⟩ | ⟨g, cap, cur, r1, r2, r3, r4, r5, r6, r7⟩
  · refine ⟨none, 0, by rw [h2, h5], by omega, by decide, fun hn => by omega⟩
  · refine ⟨some ⟨g, 0, none⟩, cap, r1, r4, r5, fun hn => ⟨g, cur, rfl, r3, fun i y hy => ?_⟩⟩
    have hi : i < l.length := by
      rcases Nat.lt_or_ge i l.length with h | h
      · exact h
      · rw [List.getElem?_eq_none h] at hy; cases hy
    have hR := h4 i y hy
    refine ⟨_, ?_, hR, fun j u hu => ?_⟩
    · have : i * size + size ≤ xs.length := by
        rw [h3]
        calc i * size + size = (i + 1) * size := by rw [Nat.succ_mul]
          _ ≤ l.length * size := Nat.mul_le_mul_right _ hi
      rw [List.length_take, List.length_drop]
      omega
    · have hj : j < size := by
        have := (List.getElem?_eq_some_iff.1 hu).1
        rw [List.length_take] at this
        omega
      have hx : xs[i * size + j]? = some u := by
        rw [List.getElem?_take_of_lt hj, List.getElem?_drop] at hu
        exact hu
      rw [← r7, List.getElem?_take] at hx
      split at hx
      · simpa using hx
      · cases hx
/-- the last element -/
theorem RowR.last {a : Option Addr} {n c : Nat} {y : α} (h : RowR W t size R (.slice a (n + 1) c) l) (hy : l.getLast? = some y) :
    ∃ g x, a = some ⟨g, 0, none⟩ ∧ x.length = size ∧ R x y ∧ ∀ (j : Nat) (u : Value), x[j]? = some u → W.cell? ⟨g, n * size + j, none⟩ = some u := by
  obtain ⟨a', c', h1, h2, h3, h4⟩ := h
  injection h1 with e1 e2 e3
  subst e1 e3
  obtain ⟨g, cs, e1, e4, e5⟩ := h4 (by omega)
  rw [List.getLast?_eq_getElem?] at hy
  obtain ⟨x, x1, x2, x3⟩ := e5 _ y hy
  rw [← e2] at x3
  exact ⟨g, x, e1, x1, x2, fun j u hu => e4.cell (by simpa using x3 j u hu)⟩
end
/-- a loop of a place, as it lies -/
def LoopIs (x : List Value) (d : Int × Int) : Prop := x = [.int .i64 d.1, .int .i64 d.2] ∧ (Lit.int .i64 d.1).wf = true ∧ (Lit.int .i64 d.2).wf = true
/-- the program's row of places -/
def PlR (tp tl : TypeId) (W : World) (g : Nat) (l : List Pl) : Prop :=
  (tp ≠ tl) ∧ ∃ cs, Blk W g tp cs ∧ cs.size = l.length * 3 ∧ ∀ (i : Nat) (p : Pl), l[i]? = some p → ∃ v : Value, cs[i * 3]? = some (.bool p.known) ∧ cs[i * 3 + 1]? = some (.int .i64 p.height) ∧ cs[i * 3 + 2]? = some v ∧ RowR W tl 2 LoopIs v (p.loops)
section
variable {tp tl : TypeId} {W W' : World} {g : Nat} {l : List Pl}
theorem PlR.lt (h : PlR tp tl W g l) : g < W.heap.size := by
  obtain ⟨_, cs, h1, _⟩ := h
  exact h1.lt
theorem PlR.blk (h : PlR tp tl W g l) : ∃ cs, Blk W g tp cs := by
  obtain ⟨_, cs, h1, _⟩ := h
  exact ⟨cs, h1⟩
theorem PlR.at_ (h : PlR tp tl W g l) {i : Nat} {p : Pl} (hp : l[i]? = some p) : ∃ v : Value, W.cell? ⟨g, i * 3, none⟩ = some (.bool p.known) ∧ W.cell? ⟨g, i * 3 + 1, none⟩ = some (.int .i64 p.height) ∧ W.cell? ⟨g, i * 3 + 2, none⟩ = some v ∧ RowR W tl 2 LoopIs v (p.loops) := by
  obtain ⟨_, cs, h1, _, h3⟩ := h
  obtain ⟨v, e0, e1, c0, h4⟩ := h3 i p hp
  exact ⟨v, h1.cell e0, h1.cell e1, h1.cell c0, h4⟩
theorem PlR.froz (h : PlR tp tl W g l) (i : Nat) : W.frozen? ⟨g, i, none⟩ = false := by
  obtain ⟨_, cs, h1, _⟩ := h
  exact h1.frozen i
theorem PlR.keep (h : PlR tp tl W g l) (hb : ∀ cs, Blk W g tp cs → Blk W' g tp cs) (hk : ∀ t g cs, tp ≠ t → Blk W g t cs → Blk W' g t cs) : PlR tp tl W' g l := by
  obtain ⟨hd, cs, h1, h2, h3⟩ := h
  have d0 := hd
  refine ⟨hd, cs, hb cs h1, h2, fun i p hp => ?_⟩
  obtain ⟨v, e0, e1, c0, r0⟩ := h3 i p hp
  exact ⟨v, e0, e1, c0, r0.keep (fun g cs e => hk _ g cs d0 e)⟩
theorem PlR.below (h : PlR tp tl W g l) (hb : Below W.heap.size W W') : PlR tp tl W' g l := h.keep (fun cs e => e.below hb e.lt) (fun t g cs _ e => e.below hb e.lt)
theorem PlR.alloc (h : PlR tp tl W g l) (o : Obj) : PlR tp tl (W.alloc o) g l := h.keep (fun cs e => e.alloc o) (fun t g cs _ e => e.alloc o)
/-- one place is set anew -/
theorem PlR.set_ (h : PlR tp tl W g l) {i : Nat} (hi : i < l.length) (h' : Int) {v : Value} {ls : List (Int × Int)} (r0 : RowR W tl 2 LoopIs v (ls)) : PlR tp tl (((W.setCell ⟨g, i * 3, none⟩ (.bool true)).setCell ⟨g, i * 3 + 1, none⟩ (.int .i64 h')).setCell ⟨g, i * 3 + 2, none⟩ v) g (l.set i ⟨true, h', ls⟩) := by
  obtain ⟨hd, cs, hb0, h2, h3⟩ := h
  have d0 := hd
  have b1 := hb0.set_ (i * 3) (.bool true)
  have b2 := b1.set_ (i * 3 + 1) (.int .i64 h')
  have b3 := b2.set_ (i * 3 + 2) v
  refine ⟨hd, _, b3, by simpa using h2, fun j p hp => ?_⟩
  by_cases hj : j = i
  · subst hj
    rw [List.getElem?_set_self (by simpa using hi)] at hp
    injection hp with hp
    subst hp
    have hs : j * 3 + 2 < cs.size := by rw [h2]; omega
    refine ⟨v, ?_, ?_, ?_, (((r0).set_ hb0 d0.symm _).set_ b1 d0.symm _).set_ b2 d0.symm _⟩
    all_goals simp [Array.getElem?_setIfInBounds, hs]
    all_goals omega
  · rw [List.getElem?_set_ne (by omega)] at hp
    obtain ⟨v', e0, e1, c0, q0⟩ := h3 j p hp
    have hne : ∀ a b, a < 3 → b < 3 → i * 3 + a ≠ j * 3 + b := fun a b ha hb => by omega
    refine ⟨v', ?_, ?_, ?_, (((q0).set_ hb0 d0.symm _).set_ b1 d0.symm _).set_ b2 d0.symm _⟩
    · rw [Array.getElem?_setIfInBounds_ne (by omega), Array.getElem?_setIfInBounds_ne (by omega), Array.getElem?_setIfInBounds_ne (by omega)]; exact e0
    · rw [Array.getElem?_setIfInBounds_ne (by omega), Array.getElem?_setIfInBounds_ne (by omega), Array.getElem?_setIfInBounds_ne (by omega)]; exact e1
    · rw [Array.getElem?_setIfInBounds_ne (by omega), Array.getElem?_setIfInBounds_ne (by omega), Array.getElem?_setIfInBounds_ne (by omega)]; exact c0
end
/-- the reference's row of places -/
def KnR (tp ti : TypeId) (W : World) (g : Nat) (l : List Pl) : Prop :=
  (tp ≠ ti) ∧ ∃ cs, Blk W g tp cs ∧ cs.size = l.length * 4 ∧ ∀ (i : Nat) (p : Pl), l[i]? = some p → ∃ v v2 : Value, cs[i * 4]? = some (.bool p.known) ∧ cs[i * 4 + 1]? = some (.int .i64 p.height) ∧ cs[i * 4 + 2]? = some v ∧ cs[i * 4 + 3]? = some v2 ∧ RowR W ti 1 IsInt v (p.loops.map (·.1)) ∧ RowR W ti 1 IsInt v2 (p.loops.map (·.2))
section
variable {tp ti : TypeId} {W W' : World} {g : Nat} {l : List Pl}
theorem KnR.lt (h : KnR tp ti W g l) : g < W.heap.size := by
  obtain ⟨_, cs, h1, _⟩ := h
  exact h1.lt
theorem KnR.blk (h : KnR tp ti W g l) : ∃ cs, Blk W g tp cs := by
  obtain ⟨_, cs, h1, _⟩ := h
  exact ⟨cs, h1⟩
theorem KnR.at_ (h : KnR tp ti W g l) {i : Nat} {p : Pl} (hp : l[i]? = some p) : ∃ v v2 : Value, W.cell? ⟨g, i * 4, none⟩ = some (.bool p.known) ∧ W.cell? ⟨g, i * 4 + 1, none⟩ = some (.int .i64 p.height) ∧ W.cell? ⟨g, i * 4 + 2, none⟩ = some v ∧ W.cell? ⟨g, i * 4 + 3, none⟩ = some v2 ∧ RowR W ti 1 IsInt v (p.loops.map (·.1)) ∧ RowR W ti 1 IsInt v2 (p.loops.map (·.2)) := by
  obtain ⟨_, cs, h1, _, h3⟩ := h
  obtain ⟨v, v2, e0, e1, c0, c1, h4⟩ := h3 i p hp
  exact ⟨v, v2, h1.cell e0, h1.cell e1, h1.cell c0, h1.cell c1, h4⟩
theorem KnR.froz (h : KnR tp ti W g l) (i : Nat) : W.frozen? ⟨g, i, none⟩ = false := by
  obtain ⟨_, cs, h1, _⟩ := h
  exact h1.frozen i
theorem KnR.keep (h : KnR tp ti W g l) (hb : ∀ cs, Blk W g tp cs → Blk W' g tp cs) (hk : ∀ t g cs, tp ≠ t → Blk W g t cs → Blk W' g t cs) : KnR tp ti W' g l := by
  obtain ⟨hd, cs, h1, h2, h3⟩ := h
  have d0 := hd
  refine ⟨hd, cs, hb cs h1, h2, fun i p hp => ?_⟩
  obtain ⟨v, v2, e0, e1, c0, c1, r0, r1⟩ := h3 i p hp
  exact ⟨v, v2, e0, e1, c0, c1, r0.keep (fun g cs e => hk _ g cs d0 e), r1.keep (fun g cs e => hk _ g cs d0 e)⟩
theorem KnR.below (h : KnR tp ti W g l) (hb : Below W.heap.size W W') : KnR tp ti W' g l := h.keep (fun cs e => e.below hb e.lt) (fun t g cs _ e => e.below hb e.lt)
theorem KnR.alloc (h : KnR tp ti W g l) (o : Obj) : KnR tp ti (W.alloc o) g l := h.keep (fun cs e => e.alloc o) (fun t g cs _ e => e.alloc o)
/-- one place is set anew -/
theorem KnR.set_ (h : KnR tp ti W g l) {i : Nat} (hi : i < l.length) (h' : Int) {v v2 : Value} {ls : List (Int × Int)} (r0 : RowR W ti 1 IsInt v (ls.map (·.1))) (r1 : RowR W ti 1 IsInt v2 (ls.map (·.2))) : KnR tp ti ((((W.setCell ⟨g, i * 4, none⟩ (.bool true)).setCell ⟨g, i * 4 + 1, none⟩ (.int .i64 h')).setCell ⟨g, i * 4 + 2, none⟩ v).setCell ⟨g, i * 4 + 3, none⟩ v2) g (l.set i ⟨true, h', ls⟩) := by
  obtain ⟨hd, cs, hb0, h2, h3⟩ := h
  have d0 := hd
  have b1 := hb0.set_ (i * 4) (.bool true)
  have b2 := b1.set_ (i * 4 + 1) (.int .i64 h')
  have b3 := b2.set_ (i * 4 + 2) v
  have b4 := b3.set_ (i * 4 + 3) v2
  refine ⟨hd, _, b4, by simpa using h2, fun j p hp => ?_⟩
  by_cases hj : j = i
  · subst hj
    rw [List.getElem?_set_self (by simpa using hi)] at hp
    injection hp with hp
    subst hp
    have hs : j * 4 + 3 < cs.size := by rw [h2]; omega
    refine ⟨v, v2, ?_, ?_, ?_, ?_, ((((r0).set_ hb0 d0.symm _).set_ b1 d0.symm _).set_ b2 d0.symm _).set_ b3 d0.symm _, ((((r1).set_ hb0 d0.symm _).set_ b1 d0.symm _).set_ b2 d0.symm _).set_ b3 d0.symm _⟩
    all_goals simp [Array.getElem?_setIfInBounds, hs]
    all_goals omega
  · rw [List.getElem?_set_ne (by omega)] at hp
    obtain ⟨v', v2', e0, e1, c0, c1, q0, q1⟩ := h3 j p hp
    have hne : ∀ a b, a < 4 → b < 4 → i * 4 + a ≠ j * 4 + b := fun a b ha hb => by omega
    refine ⟨v', v2', ?_, ?_, ?_, ?_, ((((q0).set_ hb0 d0.symm _).set_ b1 d0.symm _).set_ b2 d0.symm _).set_ b3 d0.symm _, ((((q1).set_ hb0 d0.symm _).set_ b1 d0.symm _).set_ b2 d0.symm _).set_ b3 d0.symm _⟩
    · rw [Array.getElem?_setIfInBounds_ne (by omega), Array.getElem?_setIfInBounds_ne (by omega), Array.getElem?_setIfInBounds_ne (by omega), Array.getElem?_setIfInBounds_ne (by omega)]; exact e0
    · rw [Array.getElem?_setIfInBounds_ne (by omega), Array.getElem?_setIfInBounds_ne (by omega), Array.getElem?_setIfInBounds_ne (by omega), Array.getElem?_setIfInBounds_ne (by omega)]; exact e1
    · rw [Array.getElem?_setIfInBounds_ne (by omega), Array.getElem?_setIfInBounds_ne (by omega), Array.getElem?_setIfInBounds_ne (by omega), Array.getElem?_setIfInBounds_ne (by omega)]; exact c0
    · rw [Array.getElem?_setIfInBounds_ne (by omega), Array.getElem?_setIfInBounds_ne (by omega), Array.getElem?_setIfInBounds_ne (by omega), Array.getElem?_setIfInBounds_ne (by omega)]; exact c1
end
/-- growth in one block only -/
theorem grown_set (W : World) (g i : Nat) (u : Value) : W.grownBy (W.setCell ⟨g, i, none⟩ u) (some g) := by
  have h := (Below.refl g W).setCell (p := ⟨g, i, none⟩) (Nat.le_refl _) u
  exact ⟨h.os, h.tape, h.output, h.size, fun k _ hne => Below.heap_setCell W ⟨g, i, none⟩ u k (fun e => hne (by rw [e]))⟩
theorem grown_below {W w' : World} (h : Below W.heap.size W w') (r : Option Nat) : W.grownBy w' r := ⟨h.os, h.tape, h.output, h.size, fun k hk _ => h.block k hk⟩
theorem grown_trans {W w1 w2 : World} {r : Option Nat} (h : W.grownBy w1 r) (k : w1.grownBy w2 r) : W.grownBy w2 r :=
  ⟨k.os.trans h.os, k.tape.trans h.tape, k.output.trans h.output, Nat.le_trans h.size k.size, fun j hj hne => (k.block j (Nat.lt_of_lt_of_le hj h.size) hne).trans (h.block j hj hne)⟩
theorem below_grown {w W w' : World} {g B : Nat} (h : Below B w W) (hs : B ≤ W.heap.size) (hg : W.grownBy w' (some g)) (hge : B ≤ g) : Below B w w' :=
  ⟨hg.os.trans h.os, hg.tape.trans h.tape, hg.output.trans h.output, Nat.le_trans h.size hg.size, fun k hk => (hg.block k (Nat.lt_of_lt_of_le hk hs) (fun e => by injection e with e; omega)).trans (h.block k hk)⟩
end Go.Proofs.YtdkoafmgenbkbaaDoor
