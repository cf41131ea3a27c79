/- Chapter 11 in plain words: instructions, places, what is right. Rows in blocks of their own: what is known of the places of code, in memory. Rows of places that are made; the walk through code, step by step. -/
import Derived.Test.YtdkoafmgenbkbaaDoorMNum
import Derived.Test.YtdkoafmgenbkbaaDoorMUnq
import Derived.Laws.MakeOwn
namespace Go.Proofs.YtdkoafmgenbkbaaDoor
set_option linter.unusedSimpArgs false
set_option linter.unusedVariables false
open Go.RowKit

/-- an instruction -/
structure Ins where
  op : Int
  arg : Int
  int : Int
  text : ByteArray
deriving DecidableEq
def Ins.cells (d : Ins) : List Value := [.int .i64 d.op, .int .i64 d.arg, .int .i64 d.int, .string d.text]
def Ins.ok (d : Ins) : Prop := (Lit.int .i64 d.op).wf = true ∧ (Lit.int .i64 d.arg).wf = true ∧ (Lit.int .i64 d.int).wf = true ∧ d.text.size ≤ maxLen
def Ins.Is (x : List Value) (d : Ins) : Prop := x = d.cells ∧ d.ok
/-- what is known of a place: its height, its loops (base, next) -/
structure Pl where
  known : Bool
  height : Int
  loops : List (Int × Int)
deriving DecidableEq
def Pl.none : Pl := ⟨false, 0, []⟩
def Pl.base (p : Pl) : Int := match p.loops.getLast? with | some x => x.1 | .none => 0
def Pl.next (p : Pl) : Int := match p.loops.getLast? with | some x => x.2 | .none => -1
/-- what an Op has: 1 a count, 2 a number, 3 a text, 4 a name, 5 a place, 0 nothing -/
def hasN (op : Int) : Nat := if op = 1 ∨ op = 8 then 1 else if op = 2 then 2 else if op = 3 then 3 else if (10 ≤ op ∧ op ≤ 12) ∨ op = 14 ∨ op = 15 then 4 else if op = 30 ∨ op = 31 ∨ op = 33 ∨ op = 34 ∨ op = 39 ∨ op = 40 then 5 else 0
/-- is an instruction right by itself? -/
def plainN (x : Ins) : Bool := decide (1 ≤ x.op ∧ x.op ≤ 40) && decide ((hasN x.op = 1 ∨ hasN x.op = 5 ∨ x.arg = 0) ∧ (hasN x.op = 2 ∨ x.int = 0) ∧ (hasN x.op = 3 ∨ hasN x.op = 4 ∨ x.text = ⟨#[]⟩) ∧ 0 ≤ x.arg) && (if hasN x.op = 3 then decide (x.text.size ≤ 4096) else if hasN x.op = 4 then rightN (bs x.text) else decide (x.op ≠ 1 ∨ 0 < x.arg))
/-- a place is led to -/
def leadN (l : List Pl) (to : Nat) (h : Int) (ls : List (Int × Int)) : Option (List Pl) :=
  match l[to]? with
  | some p => if p.known = true then (if p.height = h ∧ p.loops = ls then some l else .none) else some (l.set to ⟨true, h, ls⟩)
  | .none => .none
/-- is an instruction ahead of the one at i? -/
abbrev aheadN (n i : Nat) (x : Ins) : Prop := (i : Int) < x.arg ∧ x.arg ≤ n
/-- the rules at an instruction -/
def insN (c : List Ins) (l : List Pl) (i : Nat) (p : Pl) (x : Ins) : Option (List Pl) :=
  if x.op = 1 then leadN l (i + 1) p.height p.loops
  else if x.op = 8 then if x.arg < p.loops.length then leadN l (i + 1) (p.height + 1) p.loops else .none
  else if x.op ≤ 9 then leadN l (i + 1) (p.height + 1) p.loops
  else if 22 ≤ x.op ∧ x.op ≤ 28 then if 2 ≤ p.height - p.base then leadN l (i + 1) (p.height - 1) p.loops else .none
  else if x.op = 30 ∨ x.op = 31 then if 1 ≤ p.height - p.base ∧ aheadN c.length i x then (leadN l x.arg.toNat p.height p.loops).bind fun l => leadN l (i + 1) (p.height - 1) p.loops else .none
  else if x.op = 33 then if 1 ≤ p.height - p.base ∧ aheadN c.length i x then (leadN l x.arg.toNat (p.height - 1) p.loops).bind fun l => leadN l (i + 1) (p.height - 1) p.loops else .none
  else if x.op = 34 then if aheadN c.length i x then leadN l x.arg.toNat p.height p.loops else .none
  else if 35 ≤ x.op ∧ x.op ≤ 38 then if 1 ≤ p.height - p.base ∧ (c[i + 1]?).map (·.op) = some 39 then leadN l (i + 1) (p.height - 1) (p.loops ++ [(p.height - 1, (i : Int) + 1)]) else .none
  else if x.op = 39 then if p.loops ≠ [] ∧ p.next = i ∧ p.height - p.base = 0 ∧ aheadN c.length i x then (leadN l x.arg.toNat (p.base + 1) p.loops.dropLast).bind fun l => leadN l (i + 1) p.base p.loops else .none
  else if x.op = 40 then if p.loops ≠ [] ∧ x.arg = p.next ∧ p.height - p.base = 1 then some l else .none
  else if 1 ≤ p.height - p.base then leadN l (i + 1) p.height p.loops else .none
/-- one instruction's step -/
def stepN (c : List Ins) (l : List Pl) (i : Nat) : Option (List Pl) :=
  match l[i]?, c[i]? with
  | some p, some x => if p.known = true ∧ plainN x = true then insN c l i p x else .none
  | _, _ => .none
def endN (l : List Pl) (n : Nat) : Nat × Nat :=
  match l[n]? with
  | some p => if p.known = true ∧ p.height = 1 ∧ p.loops = [] then (0, 0) else (n, 110)
  | .none => (n, 110)
def goN (c : List Ins) : Nat → Nat → List Pl → Nat × Nat
  | 0, i, l => endN l i
  | m + 1, i, l => match stepN c l i with
    | some l' => goN c m (i + 1) l'
    | .none => (i, 110)
def startN (n : Nat) : List Pl := ⟨true, 0, []⟩ :: List.replicate n Pl.none
def rightC (c : List Ins) : Nat × Nat := if 1024 < c.length then (0, 4) else goN c c.length 0 (startN c.length)

/-- what holds of a place that is known -/
structure Pl.Good (p : Pl) (j : Nat) : Prop where
  b0 : 0 ≤ p.base
  bh : p.base ≤ p.height
  hj : p.height ≤ j
  few : p.loops.length ≤ j
  all : ∀ a ∈ p.loops, 0 ≤ a.1 ∧ a.1 ≤ p.base ∧ 0 ≤ a.2 ∧ a.2 ≤ j
  up : p.loops.Pairwise (fun a b => a.1 ≤ b.1)
def AllGood (l : List Pl) : Prop := ∀ (j : Nat) (p : Pl), l[j]? = some p → p.known = true → p.Good j
theorem Pl.Good.more {p : Pl} {i j : Nat} (h : p.Good i) (hij : i ≤ j) : p.Good j :=
  ⟨h.b0, h.bh, by have := h.hj; omega, by have := h.few; omega, fun a ha => by have := h.all a ha; omega, h.up⟩
theorem leadN_len {l l' : List Pl} {to : Nat} {h : Int} {ls : List (Int × Int)} (e : leadN l to h ls = some l') : l'.length = l.length := by
  unfold leadN at e
  split at e
  · split at e
    · split at e
      · injection e with e; subst e; rfl
      · cases e
    · injection e with e; subst e; simp
  · cases e
theorem leadN_good {l l' : List Pl} {to : Nat} {h : Int} {ls : List (Int × Int)} (g : AllGood l) (hg : (Pl.mk true h ls).Good to) (e : leadN l to h ls = some l') : AllGood l' := by
  unfold leadN at e
  split at e
  · split at e
    · split at e
      · injection e with e; subst e; exact g
      · cases e
    · injection e with e
      subst e
      intro j p hp hk
      by_cases hj : j = to
      · subst hj
        have : j < l.length := by
          rcases Nat.lt_or_ge j l.length with h | h
          · exact h
          · rw [List.getElem?_eq_none (by simpa using h)] at hp; cases hp
        rw [List.getElem?_set_self (by simpa using this)] at hp
        injection hp with hp
        subst hp
        exact hg
      · rw [List.getElem?_set_ne (by omega)] at hp
        exact g j p hp hk
  · cases e
/-- with another height, from the base on -/
theorem Pl.Good.at_ {p : Pl} {i j : Nat} {h : Int} (g : p.Good i) (h1 : p.base ≤ h) (h2 : h ≤ j) (hij : i ≤ j) : (Pl.mk true h p.loops).Good j :=
  ⟨g.b0, h1, h2, by have := g.few; show p.loops.length ≤ j; omega, fun a ha => by have := g.all a ha; exact ⟨this.1, this.2.1, this.2.2.1, by omega⟩, g.up⟩
theorem Pl.Good.push {p : Pl} {i : Nat} (g : p.Good i) (h1 : 1 ≤ p.height - p.base) : (Pl.mk true (p.height - 1) (p.loops ++ [(p.height - 1, (i : Int) + 1)])).Good (i + 1) := by
  have hb : (Pl.mk true (p.height - 1) (p.loops ++ [(p.height - 1, (i : Int) + 1)])).base = p.height - 1 := by unfold Pl.base; simp
  have := g.b0
  have := g.hj
  refine ⟨by rw [hb]; omega, by rw [hb]; exact Int.le_refl _, by show p.height - 1 ≤ _; omega, by have := g.few; simp; omega, ?_, ?_⟩
  · intro a ha
    rw [hb]
    rw [List.mem_append, List.mem_singleton] at ha
    rcases ha with ha | rfl
    · have := g.all a ha; omega
    · simp; omega
  · show List.Pairwise _ (p.loops ++ [(p.height - 1, (i : Int) + 1)])
    rw [List.pairwise_append]
    refine ⟨g.up, by simp, ?_⟩
    intro a ha b hb
    rw [List.mem_singleton] at hb
    subst hb
    have := g.all a ha
    simp; omega
theorem Pl.Good.pop {p : Pl} {i j : Nat} (g : p.Good i) (hn : p.loops ≠ []) (hij : i < j) : (Pl.mk true (p.base + 1) p.loops.dropLast).Good j := by
  obtain ⟨l0, t, hl⟩ : ∃ l0 t, p.loops = l0 ++ [t] := ⟨_, _, (List.dropLast_concat_getLast hn).symm⟩
  have hd : p.loops.dropLast = l0 := by rw [hl]; simp
  have ht : p.base = t.1 := by unfold Pl.base; rw [hl]; simp
  have hu := g.up
  rw [hl, List.pairwise_append] at hu
  have hbh := g.bh
  have hj := g.hj
  have hf := g.few
  rw [hl] at hf
  simp at hf
  have hbt : (Pl.mk true (p.base + 1) l0).base = 0 ∧ l0 = [] ∨ (Pl.mk true (p.base + 1) l0).base ≤ p.base ∧ 0 ≤ (Pl.mk true (p.base + 1) l0).base ∧ ∀ a ∈ l0, a.1 ≤ (Pl.mk true (p.base + 1) l0).base := by
    by_cases h0 : l0 = []
    · left; subst h0; exact ⟨rfl, rfl⟩
    · right
      obtain ⟨l1, u, hl1⟩ : ∃ l1 u, l0 = l1 ++ [u] := ⟨_, _, (List.dropLast_concat_getLast h0).symm⟩
      have hbu : (Pl.mk true (p.base + 1) l0).base = u.1 := by unfold Pl.base; simp only; rw [hl1]; simp
      rw [hbu, ht]
      have hu0 := hu.1
      rw [hl1, List.pairwise_append] at hu0
      refine ⟨hu.2.2 u (by rw [hl1]; simp) t (by simp), (g.all u (by rw [hl, hl1]; simp)).1, ?_⟩
      intro a ha
      rw [hl1, List.mem_append, List.mem_singleton] at ha
      rcases ha with ha | rfl
      · exact hu0.2.2 a ha u (by simp)
      · exact Int.le_refl _
  rw [hd]
  have hb0 := g.b0
  refine ⟨?_, ?_, by show p.base + 1 ≤ _; omega, by show l0.length ≤ j; omega, ?_, hu.1⟩
  · rcases hbt with h | h <;> omega
  · show _ ≤ p.base + 1
    rcases hbt with h | h <;> omega
  · intro a ha
    have h1 := g.all a (by rw [hl]; simp; exact .inl ha)
    rcases hbt with ⟨_, h⟩ | h
    · rw [h] at ha; cases ha
    · exact ⟨h1.1, h.2.2 a ha, h1.2.2.1, by omega⟩
theorem bind_some' {α : Type} {o : Option α} {f : α → Option α} {r : α} (h : o.bind f = some r) : ∃ x, o = some x ∧ f x = some r := by
  cases o with
  | none => cases h
  | some x => exact ⟨x, rfl, h⟩
theorem insN_good {c : List Ins} {l l' : List Pl} {i : Nat} {p : Pl} {x : Ins} (g : AllGood l) (hp : p.Good i) (e : insN c l i p x = some l') : AllGood l' ∧ l'.length = l.length := by
  have h0 := hp.b0
  have h1 := hp.bh
  have h2 := hp.hj
  unfold insN at e
  by_cases c0 : x.op = 1
  · rw [if_pos c0] at e
    exact ⟨leadN_good g (hp.at_ (by omega) (by omega) (by omega)) e, leadN_len e⟩
  rw [if_neg c0] at e
  by_cases c1 : x.op = 8
  · rw [if_pos c1] at e
    by_cases hh : x.arg < p.loops.length
    · rw [if_pos hh] at e
      exact ⟨leadN_good g (hp.at_ (by omega) (by omega) (by omega)) e, leadN_len e⟩
    · rw [if_neg hh] at e; cases e
  rw [if_neg c1] at e
  by_cases c2 : x.op ≤ 9
  · rw [if_pos c2] at e
    exact ⟨leadN_good g (hp.at_ (by omega) (by omega) (by omega)) e, leadN_len e⟩
  rw [if_neg c2] at e
  by_cases c3 : 22 ≤ x.op ∧ x.op ≤ 28
  · rw [if_pos c3] at e
    by_cases hh : 2 ≤ p.height - p.base
    · rw [if_pos hh] at e
      exact ⟨leadN_good g (hp.at_ (by omega) (by omega) (by omega)) e, leadN_len e⟩
    · rw [if_neg hh] at e; cases e
  rw [if_neg c3] at e
  by_cases c4 : x.op = 30 ∨ x.op = 31
  · rw [if_pos c4] at e
    by_cases hh : 1 ≤ p.height - p.base ∧ aheadN c.length i x
    · rw [if_pos hh] at e
      obtain ⟨m, e1, e2⟩ := bind_some' e
      have hah := hh.2
      have := leadN_len e1
      exact ⟨leadN_good (leadN_good g (hp.at_ (by omega) (by omega) (by omega)) e1) (hp.at_ (by omega) (by omega) (by omega)) e2, by rw [leadN_len e2, this]⟩
    · rw [if_neg hh] at e; cases e
  rw [if_neg c4] at e
  by_cases c5 : x.op = 33
  · rw [if_pos c5] at e
    by_cases hh : 1 ≤ p.height - p.base ∧ aheadN c.length i x
    · rw [if_pos hh] at e
      obtain ⟨m, e1, e2⟩ := bind_some' e
      have hah := hh.2
      have := leadN_len e1
      exact ⟨leadN_good (leadN_good g (hp.at_ (by omega) (by omega) (by omega)) e1) (hp.at_ (by omega) (by omega) (by omega)) e2, by rw [leadN_len e2, this]⟩
    · rw [if_neg hh] at e; cases e
  rw [if_neg c5] at e
  by_cases c6 : x.op = 34
  · rw [if_pos c6] at e
    by_cases hh : aheadN c.length i x
    · rw [if_pos hh] at e
      exact ⟨leadN_good g (hp.at_ (by omega) (by omega) (by omega)) e, leadN_len e⟩
    · rw [if_neg hh] at e; cases e
  rw [if_neg c6] at e
  by_cases c7 : 35 ≤ x.op ∧ x.op ≤ 38
  · rw [if_pos c7] at e
    by_cases hh : 1 ≤ p.height - p.base ∧ (c[i + 1]?).map (·.op) = some 39
    · rw [if_pos hh] at e
      exact ⟨leadN_good g (hp.push hh.1) e, leadN_len e⟩
    · rw [if_neg hh] at e; cases e
  rw [if_neg c7] at e
  by_cases c8 : x.op = 39
  · rw [if_pos c8] at e
    by_cases hh : p.loops ≠ [] ∧ p.next = i ∧ p.height - p.base = 0 ∧ aheadN c.length i x
    · rw [if_pos hh] at e
      obtain ⟨m, e1, e2⟩ := bind_some' e
      have hah := hh.2
      have := leadN_len e1
      exact ⟨leadN_good (leadN_good g (hp.pop hh.1 (by have h9 := hh.2.2.2; unfold aheadN at h9; omega)) e1) (hp.at_ (by omega) (by omega) (by omega)) e2, by rw [leadN_len e2, this]⟩
    · rw [if_neg hh] at e; cases e
  rw [if_neg c8] at e
  by_cases c9 : x.op = 40
  · rw [if_pos c9] at e
    by_cases hh : p.loops ≠ [] ∧ x.arg = p.next ∧ p.height - p.base = 1
    · rw [if_pos hh] at e
      injection e with e; subst e; exact ⟨g, rfl⟩
    · rw [if_neg hh] at e; cases e
  rw [if_neg c9] at e
  by_cases hh : 1 ≤ p.height - p.base
  · rw [if_pos hh] at e
    exact ⟨leadN_good g (hp.at_ (by omega) (by omega) (by omega)) e, leadN_len e⟩
  · rw [if_neg hh] at e; cases e
theorem stepN_good {c : List Ins} {l l' : List Pl} {i : Nat} (g : AllGood l) (e : stepN c l i = some l') : AllGood l' ∧ l'.length = l.length := by
  unfold stepN at e
  split at e
  · rename_i p x h1 h2
    split at e
    · rename_i hh
      exact insN_good g (g i p h1 hh.1) e
    · cases e
  · cases e
theorem start_good (n : Nat) : AllGood (startN n) := by
  intro j p hp hk
  unfold startN at hp
  cases j with
  | zero =>
    simp at hp
    subst hp
    exact ⟨by decide, by decide, by decide, by decide, fun a ha => (by cases ha), List.Pairwise.nil⟩
  | succ j =>
    rw [List.getElem?_cons_succ] at hp
    have := List.mem_of_getElem? hp
    rw [List.mem_replicate] at this
    rw [this.2] at hk
    cases hk
theorem start_len (n : Nat) : (startN n).length = n + 1 := by simp [startN]
end Go.Proofs.YtdkoafmgenbkbaaDoor
namespace Go.Proofs.YtdkoafmgenbkbaaDoor
set_option linter.unusedSimpArgs false
set_option linter.unusedVariables false
open Go.RowKit

/-- a slice from the start of a block of its own type, that reads as a list -/
def RowR {α : Type} (W : World) (t : TypeId) (size : Nat) (R : List Value → α → Prop) (v : Value) (l : List α) : Prop :=
  ∃ (a : Option Addr) (c : Nat), v = .slice a l.length c ∧ l.length ≤ c ∧ c ≤ maxLen ∧
    (0 < l.length → ∃ g cs, a = some ⟨g, 0, none⟩ ∧ Blk W g t cs ∧ ∀ (i : Nat) (y : α), l[i]? = some y → ∃ x : List Value, x.length = size ∧ R x y ∧ ∀ (j : Nat) (u : Value), x[j]? = some u → cs[i * size + j]? = some u)
section
variable {α : Type} {W W' : World} {t : TypeId} {size : Nat} {R : List Value → α → Prop} {v : Value} {l : List α}
theorem RowR.nil_ : RowR W t size R (.slice none 0 0) ([] : List α) := ⟨none, 0, rfl, Nat.zero_le _, by decide, fun h => by simp at h⟩
theorem RowR.form (h : RowR W t size R v l) : ∃ a c, v = .slice a l.length c := by
  obtain ⟨a, c, h1, _⟩ := h
  exact ⟨a, c, h1⟩
theorem RowR.keep (h : RowR W t size R v l) (hk : ∀ g cs, Blk W g t cs → Blk W' g t cs) : RowR W' t size R v l := by
  obtain ⟨a, c, h1, h2, h3, h4⟩ := h
  refine ⟨a, c, h1, h2, h3, fun hn => ?_⟩
  obtain ⟨g, cs, e1, e2, e3⟩ := h4 hn
  exact ⟨g, cs, e1, hk g cs e2, e3⟩
theorem RowR.below (h : RowR W t size R v l) (hb : Below W.heap.size W W') : RowR W' t size R v l := h.keep fun g cs e => e.below hb e.lt
theorem RowR.alloc (h : RowR W t size R v l) (o : Obj) : RowR (W.alloc o) t size R v l := h.keep fun g cs e => e.alloc o
theorem RowR.set_ (h : RowR W t size R v l) {g i : Nat} {t' : TypeId} {cs' : Array Value} (hb : Blk W g t' cs') (hne : t ≠ t') (u : Value) : RowR (W.setCell ⟨g, i, none⟩ u) t size R v l :=
  h.keep fun g' cs e => e.far (p := ⟨g, i, none⟩) (fun e' => by subst e'; unfold Blk at e hb; rw [e] at hb; injection hb with hb; injection hb with _ e2 _; exact hne e2) u
theorem RowR.grown (h : RowR W t size R v l) {g : Nat} {t' : TypeId} {cs' : Array Value} (hg : W.grownBy W' (some g)) (hb : Blk W g t' cs') (hne : t ≠ t') : RowR W' t size R v l :=
  h.keep fun g' cs e => e.grown hg (fun e' => by injection e' with e'; subst e'; unfold Blk at e hb; rw [e] at hb; injection hb with hb; injection hb with _ e2 _; exact hne e2)
theorem RowR.read (h : RowR W t size R v l) : SlR W W.heap.size size R v l := by
  obtain ⟨a, c, h1, h2, h3, h4⟩ := h
  refine ⟨a, c, h1, h2, h3, fun hn => ?_⟩
  obtain ⟨g, cs, e1, e2, e3⟩ := h4 hn
  refine ⟨g, 0, e1, e2.lt, fun i y hy => ?_⟩
  obtain ⟨x, x1, x2, x3⟩ := e3 i y hy
  exact ⟨x, x1, x2, fun j u hu => by rw [Nat.zero_add]; exact e2.cell (x3 j u hu)⟩
theorem RowR.cut {a : Option Addr} {n c : Nat} (h : RowR W t size R (.slice a (n + 1) c) l) : RowR W t size R (.slice a n c) l.dropLast := by
  obtain ⟨a', c', h1, h2, h3, h4⟩ := h
  injection h1 with e1 e2 e3
  subst e1 e3
  have hl : l.dropLast.length = n := by simp; omega
  refine ⟨a, c, by rw [hl], by omega, h3, fun hn => ?_⟩
  obtain ⟨g, cs, e1, e2, e3⟩ := h4 (by omega)
  refine ⟨g, cs, e1, e2, fun i y hy => e3 i y ?_⟩
  rw [List.getElem?_dropLast] at hy
  split at hy
  · exact hy
  · cases hy
theorem RowR.of_own {base : Nat} (h : Own1 W base t size R v l) (hs : 0 < size) : RowR W t size R v l := by
  obtain ⟨xs, ⟨h1, h2⟩, h3, h4⟩ := h
  rcases h2 with ⟨h2, h5⟩ | ⟨g, cap, cur, r1, r2, r3, r4, r5, r6, r7⟩
  · refine ⟨none, 0, by rw [h2, h5], by omega, by decide, fun hn => by omega⟩
  · refine ⟨some ⟨g, 0, none⟩, cap, r1, r4, r5, fun hn => ⟨g, cur, rfl, r3, fun i y hy => ?_⟩⟩
    have hi : i < l.length := by
      rcases Nat.lt_or_ge i l.length with h | h
      · exact h
      · rw [List.getElem?_eq_none h] at hy; cases hy
    have hR := h4 i y hy
    refine ⟨_, ?_, hR, fun j u hu => ?_⟩
    · have : i * size + size ≤ xs.length := by
        rw [h3]
        calc i * size + size = (i + 1) * size := by rw [Nat.succ_mul]
          _ ≤ l.length * size := Nat.mul_le_mul_right _ hi
      rw [List.length_take, List.length_drop]
      omega
    · have hj : j < size := by
        have := (List.getElem?_eq_some_iff.1 hu).1
        rw [List.length_take] at this
        omega
      have hx : xs[i * size + j]? = some u := by
        rw [List.getElem?_take_of_lt hj, List.getElem?_drop] at hu
        exact hu
      rw [← r7, List.getElem?_take] at hx
      split at hx
      · simpa using hx
      · cases hx
/-- the last element -/
theorem RowR.last {a : Option Addr} {n c : Nat} {y : α} (h : RowR W t size R (.slice a (n + 1) c) l) (hy : l.getLast? = some y) :
    ∃ g x, a = some ⟨g, 0, none⟩ ∧ x.length = size ∧ R x y ∧ ∀ (j : Nat) (u : Value), x[j]? = some u → W.cell? ⟨g, n * size + j, none⟩ = some u := by
  obtain ⟨a', c', h1, h2, h3, h4⟩ := h
  injection h1 with e1 e2 e3
  subst e1 e3
  obtain ⟨g, cs, e1, e4, e5⟩ := h4 (by omega)
  rw [List.getLast?_eq_getElem?] at hy
  obtain ⟨x, x1, x2, x3⟩ := e5 _ y hy
  rw [← e2] at x3
  exact ⟨g, x, e1, x1, x2, fun j u hu => e4.cell (by simpa using x3 j u hu)⟩
end
/-- a loop of a place, as it lies -/
def LoopIs (x : List Value) (d : Int × Int) : Prop := x = [.int .i64 d.1, .int .i64 d.2] ∧ (Lit.int .i64 d.1).wf = true ∧ (Lit.int .i64 d.2).wf = true
/-- the program's row of places -/
def PlR (tp tl : TypeId) (W : World) (g : Nat) (l : List Pl) : Prop :=
  (tp ≠ tl) ∧ ∃ cs, Blk W g tp cs ∧ cs.size = l.length * 3 ∧ ∀ (i : Nat) (p : Pl), l[i]? = some p → ∃ v : Value, cs[i * 3]? = some (.bool p.known) ∧ cs[i * 3 + 1]? = some (.int .i64 p.height) ∧ cs[i * 3 + 2]? = some v ∧ RowR W tl 2 LoopIs v (p.loops)
section
variable {tp tl : TypeId} {W W' : World} {g : Nat} {l : List Pl}
theorem PlR.lt (h : PlR tp tl W g l) : g < W.heap.size := by
  obtain ⟨_, cs, h1, _⟩ := h
  exact h1.lt
theorem PlR.blk (h : PlR tp tl W g l) : ∃ cs, Blk W g tp cs := by
  obtain ⟨_, cs, h1, _⟩ := h
  exact ⟨cs, h1⟩
theorem PlR.at_ (h : PlR tp tl W g l) {i : Nat} {p : Pl} (hp : l[i]? = some p) : ∃ v : Value, W.cell? ⟨g, i * 3, none⟩ = some (.bool p.known) ∧ W.cell? ⟨g, i * 3 + 1, none⟩ = some (.int .i64 p.height) ∧ W.cell? ⟨g, i * 3 + 2, none⟩ = some v ∧ RowR W tl 2 LoopIs v (p.loops) := by
  obtain ⟨_, cs, h1, _, h3⟩ := h
  obtain ⟨v, e0, e1, c0, h4⟩ := h3 i p hp
  exact ⟨v, h1.cell e0, h1.cell e1, h1.cell c0, h4⟩
theorem PlR.froz (h : PlR tp tl W g l) (i : Nat) : W.frozen? ⟨g, i, none⟩ = false := by
  obtain ⟨_, cs, h1, _⟩ := h
  exact h1.frozen i
theorem PlR.keep (h : PlR tp tl W g l) (hb : ∀ cs, Blk W g tp cs → Blk W' g tp cs) (hk : ∀ t g cs, tp ≠ t → Blk W g t cs → Blk W' g t cs) : PlR tp tl W' g l := by
  obtain ⟨hd, cs, h1, h2, h3⟩ := h
  have d0 := hd
  refine ⟨hd, cs, hb cs h1, h2, fun i p hp => ?_⟩
  obtain ⟨v, e0, e1, c0, r0⟩ := h3 i p hp
  exact ⟨v, e0, e1, c0, r0.keep (fun g cs e => hk _ g cs d0 e)⟩
theorem PlR.below (h : PlR tp tl W g l) (hb : Below W.heap.size W W') : PlR tp tl W' g l := h.keep (fun cs e => e.below hb e.lt) (fun t g cs _ e => e.below hb e.lt)
theorem PlR.alloc (h : PlR tp tl W g l) (o : Obj) : PlR tp tl (W.alloc o) g l := h.keep (fun cs e => e.alloc o) (fun t g cs _ e => e.alloc o)
/-- one place is set anew -/
theorem PlR.set_ (h : PlR tp tl W g l) {i : Nat} (hi : i < l.length) (h' : Int) {v : Value} {ls : List (Int × Int)} (r0 : RowR W tl 2 LoopIs v (ls)) : PlR tp tl (((W.setCell ⟨g, i * 3, none⟩ (.bool true)).setCell ⟨g, i * 3 + 1, none⟩ (.int .i64 h')).setCell ⟨g, i * 3 + 2, none⟩ v) g (l.set i ⟨true, h', ls⟩) := by
  obtain ⟨hd, cs, hb0, h2, h3⟩ := h
  have d0 := hd
  have b1 := hb0.set_ (i * 3) (.bool true)
  have b2 := b1.set_ (i * 3 + 1) (.int .i64 h')
  have b3 := b2.set_ (i * 3 + 2) v
  refine ⟨hd, _, b3, by simpa using h2, fun j p hp => ?_⟩
  by_cases hj : j = i
  · subst hj
    rw [List.getElem?_set_self (by simpa using hi)] at hp
    injection hp with hp
    subst hp
    have hs : j * 3 + 2 < cs.size := by rw [h2]; omega
    refine ⟨v, ?_, ?_, ?_, (((r0).set_ hb0 d0.symm _).set_ b1 d0.symm _).set_ b2 d0.symm _⟩
    all_goals simp [Array.getElem?_setIfInBounds, hs]
    all_goals omega
  · rw [List.getElem?_set_ne (by omega)] at hp
    obtain ⟨v', e0, e1, c0, q0⟩ := h3 j p hp
    have hne : ∀ a b, a < 3 → b < 3 → i * 3 + a ≠ j * 3 + b := fun a b ha hb => by omega
    refine ⟨v', ?_, ?_, ?_, (((q0).set_ hb0 d0.symm _).set_ b1 d0.symm _).set_ b2 d0.symm _⟩
    · rw [Array.getElem?_setIfInBounds_ne (by omega), Array.getElem?_setIfInBounds_ne (by omega), Array.getElem?_setIfInBounds_ne (by omega)]; exact e0
    · rw [Array.getElem?_setIfInBounds_ne (by omega), Array.getElem?_setIfInBounds_ne (by omega), Array.getElem?_setIfInBounds_ne (by omega)]; exact e1
    · rw [Array.getElem?_setIfInBounds_ne (by omega), Array.getElem?_setIfInBounds_ne (by omega), Array.getElem?_setIfInBounds_ne (by omega)]; exact c0
end
/-- the reference's row of places -/
def KnR (tp ti : TypeId) (W : World) (g : Nat) (l : List Pl) : Prop :=
  (tp ≠ ti) ∧ ∃ cs, Blk W g tp cs ∧ cs.size = l.length * 4 ∧ ∀ (i : Nat) (p : Pl), l[i]? = some p → ∃ v v2 : Value, cs[i * 4]? = some (.bool p.known) ∧ cs[i * 4 + 1]? = some (.int .i64 p.height) ∧ cs[i * 4 + 2]? = some v ∧ cs[i * 4 + 3]? = some v2 ∧ RowR W ti 1 IsInt v (p.loops.map (·.1)) ∧ RowR W ti 1 IsInt v2 (p.loops.map (·.2))
section
variable {tp ti : TypeId} {W W' : World} {g : Nat} {l : List Pl}
theorem KnR.lt (h : KnR tp ti W g l) : g < W.heap.size := by
  obtain ⟨_, cs, h1, _⟩ := h
  exact h1.lt
theorem KnR.blk (h : KnR tp ti W g l) : ∃ cs, Blk W g tp cs := by
  obtain ⟨_, cs, h1, _⟩ := h
  exact ⟨cs, h1⟩
theorem KnR.at_ (h : KnR tp ti W g l) {i : Nat} {p : Pl} (hp : l[i]? = some p) : ∃ v v2 : Value, W.cell? ⟨g, i * 4, none⟩ = some (.bool p.known) ∧ W.cell? ⟨g, i * 4 + 1, none⟩ = some (.int .i64 p.height) ∧ W.cell? ⟨g, i * 4 + 2, none⟩ = some v ∧ W.cell? ⟨g, i * 4 + 3, none⟩ = some v2 ∧ RowR W ti 1 IsInt v (p.loops.map (·.1)) ∧ RowR W ti 1 IsInt v2 (p.loops.map (·.2)) := by
  obtain ⟨_, cs, h1, _, h3⟩ := h
  obtain ⟨v, v2, e0, e1, c0, c1, h4⟩ := h3 i p hp
  exact ⟨v, v2, h1.cell e0, h1.cell e1, h1.cell c0, h1.cell c1, h4⟩
theorem KnR.froz (h : KnR tp ti W g l) (i : Nat) : W.frozen? ⟨g, i, none⟩ = false := by
  obtain ⟨_, cs, h1, _⟩ := h
  exact h1.frozen i
theorem KnR.keep (h : KnR tp ti W g l) (hb : ∀ cs, Blk W g tp cs → Blk W' g tp cs) (hk : ∀ t g cs, tp ≠ t → Blk W g t cs → Blk W' g t cs) : KnR tp ti W' g l := by
  obtain ⟨hd, cs, h1, h2, h3⟩ := h
  have d0 := hd
  refine ⟨hd, cs, hb cs h1, h2, fun i p hp => ?_⟩
  obtain ⟨v, v2, e0, e1, c0, c1, r0, r1⟩ := h3 i p hp
  exact ⟨v, v2, e0, e1, c0, c1, r0.keep (fun g cs e => hk _ g cs d0 e), r1.keep (fun g cs e => hk _ g cs d0 e)⟩
theorem KnR.below (h : KnR tp ti W g l) (hb : Below W.heap.size W W') : KnR tp ti W' g l := h.keep (fun cs e => e.below hb e.lt) (fun t g cs _ e => e.below hb e.lt)
theorem KnR.alloc (h : KnR tp ti W g l) (o : Obj) : KnR tp ti (W.alloc o) g l := h.keep (fun cs e => e.alloc o) (fun t g cs _ e => e.alloc o)
/-- one place is set anew -/
theorem KnR.set_ (h : KnR tp ti W g l) {i : Nat} (hi : i < l.length) (h' : Int) {v v2 : Value} {ls : List (Int × Int)} (r0 : RowR W ti 1 IsInt v (ls.map (·.1))) (r1 : RowR W ti 1 IsInt v2 (ls.map (·.2))) : KnR tp ti ((((W.setCell ⟨g, i * 4, none⟩ (.bool true)).setCell ⟨g, i * 4 + 1, none⟩ (.int .i64 h')).setCell ⟨g, i * 4 + 2, none⟩ v).setCell ⟨g, i * 4 + 3, none⟩ v2) g (l.set i ⟨true, h', ls⟩) := by
  obtain ⟨hd, cs, hb0, h2, h3⟩ := h
  have d0 := hd
  have b1 := hb0.set_ (i * 4) (.bool true)
  have b2 := b1.set_ (i * 4 + 1) (.int .i64 h')
  have b3 := b2.set_ (i * 4 + 2) v
  have b4 := b3.set_ (i * 4 + 3) v2
  refine ⟨hd, _, b4, by simpa using h2, fun j p hp => ?_⟩
  by_cases hj : j = i
  · subst hj
    rw [List.getElem?_set_self (by simpa using hi)] at hp
    injection hp with hp
    subst hp
    have hs : j * 4 + 3 < cs.size := by rw [h2]; omega
    refine ⟨v, v2, ?_, ?_, ?_, ?_, ((((r0).set_ hb0 d0.symm _).set_ b1 d0.symm _).set_ b2 d0.symm _).set_ b3 d0.symm _, ((((r1).set_ hb0 d0.symm _).set_ b1 d0.symm _).set_ b2 d0.symm _).set_ b3 d0.symm _⟩
    all_goals simp [Array.getElem?_setIfInBounds, hs]
    all_goals omega
  · rw [List.getElem?_set_ne (by omega)] at hp
    obtain ⟨v', v2', e0, e1, c0, c1, q0, q1⟩ := h3 j p hp
    have hne : ∀ a b, a < 4 → b < 4 → i * 4 + a ≠ j * 4 + b := fun a b ha hb => by omega
    refine ⟨v', v2', ?_, ?_, ?_, ?_, ((((q0).set_ hb0 d0.symm _).set_ b1 d0.symm _).set_ b2 d0.symm _).set_ b3 d0.symm _, ((((q1).set_ hb0 d0.symm _).set_ b1 d0.symm _).set_ b2 d0.symm _).set_ b3 d0.symm _⟩
    · rw [Array.getElem?_setIfInBounds_ne (by omega), Array.getElem?_setIfInBounds_ne (by omega), Array.getElem?_setIfInBounds_ne (by omega), Array.getElem?_setIfInBounds_ne (by omega)]; exact e0
    · rw [Array.getElem?_setIfInBounds_ne (by omega), Array.getElem?_setIfInBounds_ne (by omega), Array.getElem?_setIfInBounds_ne (by omega), Array.getElem?_setIfInBounds_ne (by omega)]; exact e1
    · rw [Array.getElem?_setIfInBounds_ne (by omega), Array.getElem?_setIfInBounds_ne (by omega), Array.getElem?_setIfInBounds_ne (by omega), Array.getElem?_setIfInBounds_ne (by omega)]; exact c0
    · rw [Array.getElem?_setIfInBounds_ne (by omega), Array.getElem?_setIfInBounds_ne (by omega), Array.getElem?_setIfInBounds_ne (by omega), Array.getElem?_setIfInBounds_ne (by omega)]; exact c1
end
/-- growth in one block only -/
theorem grown_set (W : World) (g i : Nat) (u : Value) : W.grownBy (W.setCell ⟨g, i, none⟩ u) (some g) := by
  have h := (Below.refl g W).setCell (p := ⟨g, i, none⟩) (Nat.le_refl _) u
  exact ⟨h.os, h.tape, h.output, h.size, fun k _ hne => Below.heap_setCell W ⟨g, i, none⟩ u k (fun e => hne (by rw [e]))⟩
theorem grown_below {W w' : World} (h : Below W.heap.size W w') (r : Option Nat) : W.grownBy w' r := ⟨h.os, h.tape, h.output, h.size, fun k hk _ => h.block k hk⟩
theorem grown_trans {W w1 w2 : World} {r : Option Nat} (h : W.grownBy w1 r) (k : w1.grownBy w2 r) : W.grownBy w2 r :=
  ⟨k.os.trans h.os, k.tape.trans h.tape, k.output.trans h.output, Nat.le_trans h.size k.size, fun j hj hne => (k.block j (Nat.lt_of_lt_of_le hj h.size) hne).trans (h.block j hj hne)⟩
theorem below_grown {w W w' : World} {g B : Nat} (h : Below B w W) (hs : B ≤ W.heap.size) (hg : W.grownBy w' (some g)) (hge : B ≤ g) : Below B w w' :=
  ⟨hg.os.trans h.os, hg.tape.trans h.tape, hg.output.trans h.output, Nat.le_trans h.size hg.size, fun k hk => (hg.block k (Nat.lt_of_lt_of_le hk hs) (fun e => by injection e with e; omega)).trans (h.block k hk)⟩
end Go.Proofs.YtdkoafmgenbkbaaDoor
namespace Go.Proofs.YtdkoafmgenbkbaaDoor
set_option linter.unusedSimpArgs false
set_option linter.unusedVariables false
open Go.RowKit

theorem made_at {z : Array Value} {n i : Nat} (r : Nat) (h : i < n) (hr : i % z.size = r) : (madeCells z n)[i]? = some (z[r]!) := by subst hr; simp [madeCells, h]
theorem PlR.made {tp tl : TypeId} {W : World} {g n : Nat} (hd : tp ≠ tl) (h : Blk W g tp (madeCells #[.bool false, .int .i64 0, .slice none 0 0] (n * 3))) : PlR tp tl W g (List.replicate n Pl.none) := by
  refine ⟨hd, _, h, by simp [size_madeCells], fun i p hp => ?_⟩
  have hi : i < n := by have := (List.getElem?_eq_some_iff.1 hp).1; simpa using this
  have hp' := List.mem_of_getElem? hp
  rw [List.mem_replicate] at hp'
  obtain ⟨_, rfl⟩ := hp'
  refine ⟨.slice none 0 0, ?_, ?_, ?_, RowR.nil_⟩
  · exact made_at 0 (by omega) (by simp; try omega)
  · exact made_at 1 (by omega) (by simp; try omega)
  · exact made_at 2 (by omega) (by simp; try omega)
theorem KnR.made {tp tl : TypeId} {W : World} {g n : Nat} (hd : tp ≠ tl) (h : Blk W g tp (madeCells #[.bool false, .int .i64 0, .slice none 0 0, .slice none 0 0] (n * 4))) : KnR tp tl W g (List.replicate n Pl.none) := by
  refine ⟨hd, _, h, by simp [size_madeCells], fun i p hp => ?_⟩
  have hi : i < n := by have := (List.getElem?_eq_some_iff.1 hp).1; simpa using this
  have hp' := List.mem_of_getElem? hp
  rw [List.mem_replicate] at hp'
  obtain ⟨_, rfl⟩ := hp'
  refine ⟨.slice none 0 0, .slice none 0 0, ?_, ?_, ?_, ?_, RowR.nil_, RowR.nil_⟩
  · exact made_at 0 (by omega) (by simp; try omega)
  · exact made_at 1 (by omega) (by simp; try omega)
  · exact made_at 2 (by omega) (by simp; try omega)
  · exact made_at 3 (by omega) (by simp; try omega)
theorem lead_start (n : Nat) : leadN (List.replicate (n + 1) Pl.none) 0 0 [] = some (startN n) := by
  unfold leadN startN
  rw [List.replicate_succ]
  rfl
theorem go_step {c : List Ins} {k n : Nat} {l : List Pl} (h : k < n) : goN c (n - k) k l = match stepN c l k with | some l' => goN c (n - (k + 1)) (k + 1) l' | .none => (k, 110) := by
  obtain ⟨m, hm⟩ : ∃ m, n - k = m + 1 := ⟨n - k - 1, by omega⟩
  rw [hm, show n - (k + 1) = m by omega]
  rfl
theorem step_of {c : List Ins} {l : List Pl} {k : Nat} {p : Pl} {x : Ins} (hp : l[k]? = some p) (hx : c[k]? = some x) : stepN c l k = if p.known = true ∧ plainN x = true then insN c l k p x else .none := by
  unfold stepN
  rw [hp, hx]
theorem plain_ops {x : Ins} (h : plainN x = true) : 1 ≤ x.op ∧ x.op ≤ 40 ∧ 0 ≤ x.arg := by
  unfold plainN at h
  simp only [Bool.and_eq_true, decide_eq_true_eq] at h
  exact ⟨h.1.1.1, h.1.1.2, h.1.2.2.2.2⟩
end Go.Proofs.YtdkoafmgenbkbaaDoor
