/- Chapter 11 in plain words: instructions, places, what is right. -/
import Derived.Test.YtdkoafmgenbkbaaDoorOwn
import Derived.Test.YtdkoafmgenbkbaaDoorName
namespace Go.Proofs.YtdkoafmgenbkbaaDoor
set_option linter.unusedSimpArgs false
set_option linter.unusedVariables false
open Go.RowKit

/-- an instruction -/
structure Ins where
  op : Int
  arg : Int
  int : Int
  text : ByteArray
deriving DecidableEq
def Ins.cells (d : Ins) : List Value := [.int .i64 d.op, .int .i64 d.arg, .int .i64 d.int, .string d.text]
def Ins.ok (d : Ins) : Prop := (Lit.int .i64 d.op).wf = true ∧ (Lit.int .i64 d.arg).wf = true ∧ (Lit.int .i64 d.int).wf = true ∧ d.text.size ≤ maxLen
def Ins.Is (x : List Value) (d : Ins) : Prop := x = d.cells ∧ d.ok
/-- what is known of a place: its height, its loops (base, next) -/
structure Pl where
  known : Bool
  height : Int
  loops : List (Int × Int)
deriving DecidableEq
def Pl.none : Pl := ⟨false, 0, []⟩
def Pl.base (p : Pl) : Int := match p.loops.getLast? with | some x => x.1 | .none => 0
def Pl.next (p : Pl) : Int := match p.loops.getLast? with | some x => x.2 | .none => -1
/-- what an Op has: 1 a count, 2 a number, 3 a text, 4 a name, 5 a place, 0 nothing -/
def hasN (op : Int) : Nat := if op = 1 ∨ op = 8 then 1 else if op = 2 then 2 else if op = 3 then 3 else if (10 ≤ op ∧ op ≤ 12) ∨ op = 14 ∨ op = 15 then 4 else if op = 30 ∨ op = 31 ∨ op = 33 ∨ op = 34 ∨ op = 39 ∨ op = 40 then 5 else 0
/-- is an instruction right by itself? -/
def plainN (x : Ins) : Bool := decide (1 ≤ x.op ∧ x.op ≤ 40) && decide ((hasN x.op = 1 ∨ hasN x.op = 5 ∨ x.arg = 0) ∧ (hasN x.op = 2 ∨ x.int = 0) ∧ (hasN x.op = 3 ∨ hasN x.op = 4 ∨ x.text = ⟨#[]⟩) ∧ 0 ≤ x.arg) && (if hasN x.op = 3 then decide (x.text.size ≤ 4096) else if hasN x.op = 4 then rightN (bs x.text) else decide (x.op ≠ 1 ∨ 0 < x.arg))
/-- a place is led to -/
def leadN (l : List Pl) (to : Nat) (h : Int) (ls : List (Int × Int)) : Option (List Pl) :=
  match l[to]? with
  | some p => if p.known = true then (if p.height = h ∧ p.loops = ls then some l else .none) else some (l.set to ⟨true, h, ls⟩)
  | .none => .none
/-- is an instruction ahead of the one at i? -/
abbrev aheadN (n i : Nat) (x : Ins) : Prop := (i : Int) < x.arg ∧ x.arg ≤ n
/-- the rules at an instruction -/
def insN (c : List Ins) (l : List Pl) (i : Nat) (p : Pl) (x : Ins) : Option (List Pl) :=
  if x.op = 1 then leadN l (i + 1) p.height p.loops
  else if x.op = 8 then if x.arg < p.loops.length then leadN l (i + 1) (p.height + 1) p.loops else .none
  else if x.op ≤ 9 then leadN l (i + 1) (p.height + 1) p.loops
  else if 22 ≤ x.op ∧ x.op ≤ 28 then if 2 ≤ p.height - p.base then leadN l (i + 1) (p.height - 1) p.loops else .none
  else if x.op = 30 ∨ x.op = 31 then if 1 ≤ p.height - p.base ∧ aheadN c.length i x then (leadN l x.arg.toNat p.height p.loops).bind fun l => leadN l (i + 1) (p.height - 1) p.loops else .none
  else if x.op = 33 then if 1 ≤ p.height - p.base ∧ aheadN c.length i x then (leadN l x.arg.toNat (p.height - 1) p.loops).bind fun l => leadN l (i + 1) (p.height - 1) p.loops else .none
  else if x.op = 34 then if aheadN c.length i x then leadN l x.arg.toNat p.height p.loops else .none
  else if 35 ≤ x.op ∧ x.op ≤ 38 then if 1 ≤ p.height - p.base ∧ (c[i + 1]?).map (·.op) = some 39 then leadN l (i + 1) (p.height - 1) (p.loops ++ [(p.height - 1, (i : Int) + 1)]) else .none
  else if x.op = 39 then if p.loops ≠ [] ∧ p.next = i ∧ p.height - p.base = 0 ∧ aheadN c.length i x then (leadN l x.arg.toNat (p.base + 1) p.loops.dropLast).bind fun l => leadN l (i + 1) p.base p.loops else .none
  else if x.op = 40 then if p.loops ≠ [] ∧ x.arg = p.next ∧ p.height - p.base = 1 then some l else .none
  else if 1 ≤ p.height - p.base then leadN l (i + 1) p.height p.loops else .none
/-- one instruction's step -/
def stepN (c : List Ins) (l : List Pl) (i : Nat) : Option (List Pl) :=
  match l[i]?, c[i]? with
  | some p, some x => if p.known = true ∧ plainN x = true then insN c l i p x else .none
  | _, _ => .none
def endN (l : List Pl) (n : Nat) : Nat × Nat :=
  match l[n]? with
  | some p => if p.known = true ∧ p.height = 1 ∧ p.loops = [] then (0, 0) else (n, 110)
  | .none => (n, 110)
def goN (c : List Ins) : Nat → Nat → List Pl → Nat × Nat
  | 0, i, l => endN l i
  | m + 1, i, l => match stepN c l i with
    | some l' => goN c m (i + 1) l'
    | .none => (i, 110)
def startN (n : Nat) : List Pl := ⟨true, 0, []⟩ :: List.replicate n Pl.none
def rightC (c : List Ins) : Nat × Nat := if 1024 < c.length then (0, 4) else goN c c.length 0 (startN c.length)

/-- what holds of a place that is known -/
structure Pl.Good (p : Pl) (j : Nat) : Prop where
  b0 : 0 ≤ p.base
  bh : p.base ≤ p.height
  hj : p.height ≤ j
  few : p.loops.length ≤ j
  all : ∀ a ∈ p.loops, 0 ≤ a.1 ∧ a.1 ≤ p.base ∧ 0 ≤ a.2 ∧ a.2 ≤ j
  up : p.loops.Pairwise (fun a b => a.1 ≤ b.1)
def AllGood (l : List Pl) : Prop := ∀ (j : Nat) (p : Pl), l[j]? = some p → p.known = true → p.Good j
theorem Pl.Good.more {p : Pl} {i j : Nat} (h : p.Good i) (hij : i ≤ j) : p.Good j :=
  ⟨h.b0, h.bh, by have := h.hj; omega, by have := h.few; omega, fun a ha => by have := h.all a ha; omega, h.up⟩
theorem leadN_len {l l' : List Pl} {to : Nat} {h : Int} {ls : List (Int × Int)} (e : leadN l to h ls = some l') : l'.length = l.length := by
  unfold leadN at e
  split at e
  · split at e
    · split at e
      · injection e with e; subst e; rfl
      · cases e
    · injection e with e; subst e; simp
  · cases e
theorem leadN_good {l l' : List Pl} {to : Nat} {h : Int} {ls : List (Int × Int)} (g : AllGood l) (hg : (Pl.mk true h ls).Good to) (e : leadN l to h ls = some l') : AllGood l' := by
  unfold leadN at e
  split at e
  · split at e
    · split at e
      · injection e with e; subst e; exact g
      · cases e
    · injection e with e
      subst e
      intro j p hp hk
      by_cases hj : j = to
      · subst hj
        have : j < l.length := by
          rcases Nat.lt_or_ge j l.length with h | h
          · exact h
          · rw [List.getElem?_eq_none (by simpa using h)] at hp; cases hp
        rw [List.getElem?_set_self (by simpa using this)] at hp
        injection hp with hp
        subst hp
        exact hg
      · rw [List.getElem?_set_ne (by omega)] at hp
        exact g j p hp hk
  · cases e
/-- with another height, from the base on -/
theorem Pl.Good.at_ {p : Pl} {i j : Nat} {h : Int} (g : p.Good i) (h1 : p.base ≤ h) (h2 : h ≤ j) (hij : i ≤ j) : (Pl.mk true h p.loops).Good j :=
  ⟨g.b0, h1, h2, by have := g.few; show p.loops.length ≤ j; omega, fun a ha => by have := g.all a ha; exact ⟨this.1, this.2.1, this.2.2.1, by omega⟩, g.up⟩
theorem Pl.Good.push {p : Pl} {i : Nat} (g : p.Good i) (h1 : 1 ≤ p.height - p.base) : (Pl.mk true (p.height - 1) (p.loops ++ [(p.height - 1, (i : Int) + 1)])).Good (i + 1) := by
  have hb : (Pl.mk true (p.height - 1) (p.loops ++ [(p.height - 1, (i : Int) + 1)])).base = p.height - 1 := by unfold Pl.base; simp
  have := g.b0
  have := g.hj
  refine ⟨by rw [hb]; omega, by rw [hb]; exact Int.le_refl _, by show p.height - 1 ≤ _; omega, by have := g.few; simp; omega, ?_, ?_⟩
  · intro a ha
    rw [hb]
    rw [List.mem_append, List.mem_singleton] at ha
    rcases ha with ha | rfl
    · have := g.all a ha; omega
    · simp; omega
  · show List.Pairwise _ (p.loops ++ [(p.height - 1, (i : Int) + 1)])
    rw [List.pairwise_append]
    refine ⟨g.up, by simp, ?_⟩
    intro a ha b hb
    rw [List.mem_singleton] at hb
    subst hb
    have := g.all a ha
    simp; omega
theorem Pl.Good.pop {p : Pl} {i j : Nat} (g : p.Good i) (hn : p.loops ≠ []) (hij : i < j) : (Pl.mk true (p.base + 1) p.loops.dropLast).Good j := by
  obtain ⟨l0, t, hl⟩ : ∃ l0 t, p.loops = l0 ++ [t] := ⟨_, _, (List.dropLast_concat_getLast hn).symm⟩
  have hd : p.loops.dropLast = l0 := by rw [hl]; simp
  have ht : p.base = t.1 := by unfold Pl.base; rw [hl]; simp
  have hu := g.up
  rw [hl, List.pairwise_append] at hu
  have hbh := g.bh
  have hj := g.hj
  have hf := g.few
  rw [hl] at hf
  simp at hf
  have hbt : (Pl.mk true (p.base + 1) l0).base = 0 ∧ l0 = [] ∨ (Pl.mk true (p.base + 1) l0).base ≤ p.base ∧ 0 ≤ (Pl.mk true (p.base + 1) l0).base ∧ ∀ a ∈ l0, a.1 ≤ (Pl.mk true (p.base + 1) l0).base := by
    by_cases h0 : l0 = []
    · left; subst h0; exact ⟨rfl, rfl⟩
    · right
      obtain ⟨l1, u, hl1⟩ : ∃ l1 u, l0 = l1 ++ [u] := ⟨_, _, (List.dropLast_concat_getLast h0).symm⟩
      have hbu : (Pl.mk true (p.base + 1) l0).base = u.1 := by unfold Pl.base; simp only; rw [hl1]; simp
      rw [hbu, ht]
      have hu0 := hu.1
      rw [hl1, List.pairwise_append] at hu0
      refine ⟨hu.2.2 u (by rw [hl1]; simp) t (by simp), (g.all u (by rw [hl, hl1]; simp)).1, ?_⟩
      intro a ha
      rw [hl1, List.mem_append, List.mem_singleton] at ha
      rcases ha with ha | rfl
      · exact hu0.2.2 a ha u (by simp)
      · exact Int.le_refl _
  rw [hd]
  have hb0 := g.b0
  refine ⟨?_, ?_, by show p.base + 1 ≤ _; omega, by show l0.length ≤ j; omega, ?_, hu.1⟩
  · rcases hbt with h | h <;> omega
  · show _ ≤ p.base + 1
    rcases hbt with h | h <;> omega
  · intro a ha
    have h1 := g.all a (by rw [hl]; simp; exact .inl ha)
    rcases hbt with ⟨_, h⟩ | h
    · rw [h] at ha; cases ha
    · exact ⟨h1.1, h.2.2 a ha, h1.2.2.1, by omega⟩
theorem bind_some' {α : Type} {o : Option α} {f : α → Option α} {r : α} (h : o.bind f = some r) : ∃ x, o = some x ∧ f x = some r := by
  cases o with
  | none => cases h
  | some x => exact ⟨x, rfl, h⟩
theorem insN_good {c : List Ins} {l l' : List Pl} {i : Nat} {p : Pl} {x : Ins} (g : AllGood l) (hp : p.Good i) (e : insN c l i p x = some l') : AllGood l' ∧ l'.length = l.length := by
  have h0 := hp.b0
  have h1 := hp.bh
  have h2 := hp.hj
  unfold insN at e
  by_cases c0 : x.op = 1
  · rw [if_pos c0] at e
    exact ⟨leadN_good g (hp.at_ (by omega) (by omega) (by omega)) e, leadN_len e⟩
  rw [if_neg c0] at e
  by_cases c1 : x.op = 8
  · rw [if_pos c1] at e
    by_cases hh : x.arg < p.loops.length
    · rw [if_pos hh] at e
      exact ⟨leadN_good g (hp.at_ (by omega) (by omega) (by omega)) e, leadN_len e⟩
    · rw [if_neg hh] at e; cases e
  rw [if_neg c1] at e
  by_cases c2 : x.op ≤ 9
  · rw [if_pos c2] at e
    exact ⟨leadN_good g (hp.at_ (by omega) (by omega) (by omega)) e, leadN_len e⟩
  rw [if_neg c2] at e
  by_cases c3 : 22 ≤ x.op ∧ x.op ≤ 28
  · rw [if_pos c3] at e
    by_cases hh : 2 ≤ p.height - p.base
    · rw [if_pos hh] at e
      exact ⟨leadN_good g (hp.at_ (by omega) (by omega) (by omega)) e, leadN_len e⟩
    · rw [if_neg hh] at e; cases e
  rw [if_neg c3] at e
  by_cases c4 : x.op = 30 ∨ x.op = 31
  · rw [if_pos c4] at e
    by_cases hh : 1 ≤ p.height - p.base ∧ aheadN c.length i x
    · rw [if_pos hh] at e
      obtain ⟨m, e1, e2⟩ := bind_some' e
      have hah := hh.2
      have := leadN_len e1
      exact ⟨leadN_good (leadN_good g (hp.at_ (by omega) (by omega) (by omega)) e1) (hp.at_ (by omega) (by omega) (by omega)) e2, by rw [leadN_len e2, this]⟩
    · rw [if_neg hh] at e; cases e
  rw [if_neg c4] at e
  by_cases c5 : x.op = 33
  · rw [if_pos c5] at e
    by_cases hh : 1 ≤ p.height - p.base ∧ aheadN c.length i x
    · rw [if_pos hh] at e
      obtain ⟨m, e1, e2⟩ := bind_some' e
      have hah := hh.2
      have := leadN_len e1
      exact ⟨leadN_good (leadN_good g (hp.at_ (by omega) (by omega) (by omega)) e1) (hp.at_ (by omega) (by omega) (by omega)) e2, by rw [leadN_len e2, this]⟩
    · rw [if_neg hh] at e; cases e
  rw [if_neg c5] at e
  by_cases c6 : x.op = 34
  · rw [if_pos c6] at e
    by_cases hh : aheadN c.length i x
    · rw [if_pos hh] at e
      exact ⟨leadN_good g (hp.at_ (by omega) (by omega) (by omega)) e, leadN_len e⟩
    · rw [if_neg hh] at e; cases e
  rw [if_neg c6] at e
  by_cases c7 : 35 ≤ x.op ∧ x.op ≤ 38
  · rw [if_pos c7] at e
    by_cases hh : 1 ≤ p.height - p.base ∧ (c[i + 1]?).map (·.op) = some 39
    · rw [if_pos hh] at e
      exact ⟨leadN_good g (hp.push hh.1) e, leadN_len e⟩
    · rw [if_neg hh] at e; cases e
  rw [if_neg c7] at e
  by_cases c8 : x.op = 39
  · rw [if_pos c8] at e
    by_cases hh : p.loops ≠ [] ∧ p.next = i ∧ p.height - p.base = 0 ∧ aheadN c.length i x
    · rw [if_pos hh] at e
      obtain ⟨m, e1, e2⟩ := bind_some' e
      have hah := hh.2
      have := leadN_len e1
      exact ⟨leadN_good (leadN_good g (hp.pop hh.1 (by have h9 := hh.2.2.2; unfold aheadN at h9; omega)) e1) (hp.at_ (by omega) (by omega) (by omega)) e2, by rw [leadN_len e2, this]⟩
    · rw [if_neg hh] at e; cases e
  rw [if_neg c8] at e
  by_cases c9 : x.op = 40
  · rw [if_pos c9] at e
    by_cases hh : p.loops ≠ [] ∧ x.arg = p.next ∧ p.height - p.base = 1
    · rw [if_pos hh] at e
      injection e with e; subst e; exact ⟨g, rfl⟩
    · rw [if_neg hh] at e; cases e
  rw [if_neg c9] at e
  by_cases hh : 1 ≤ p.height - p.base
  · rw [if_pos hh] at e
    exact ⟨leadN_good g (hp.at_ (by omega) (by omega) (by omega)) e, leadN_len e⟩
  · rw [if_neg hh] at e; cases e
theorem stepN_good {c : List Ins} {l l' : List Pl} {i : Nat} (g : AllGood l) (e : stepN c l i = some l') : AllGood l' ∧ l'.length = l.length := by
  unfold stepN at e
  split at e
  · rename_i p x h1 h2
    split at e
    · rename_i hh
      exact insN_good g (g i p h1 hh.1) e
    · cases e
  · cases e
theorem start_good (n : Nat) : AllGood (startN n) := by
  intro j p hp hk
  unfold startN at hp
  cases j with
  | zero =>
    simp at hp
    subst hp
    exact ⟨by decide, by decide, by decide, by decide, fun a ha => (by cases ha), List.Pairwise.nil⟩
  | succ j =>
    rw [List.getElem?_cons_succ] at hp
    have := List.mem_of_getElem? hp
    rw [List.mem_replicate] at this
    rw [this.2] at hk
    cases hk
theorem start_len (n : Nat) : (startN n).length = n + 1 := by simp [startN]
end Go.Proofs.YtdkoafmgenbkbaaDoor
