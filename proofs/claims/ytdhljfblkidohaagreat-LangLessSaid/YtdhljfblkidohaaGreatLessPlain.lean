/- The plain law of chapter 04: an element less leaves a definition that may be. -/
import Derived.Test.YtdhljfblkidohaaGreatHealPlain
namespace Go.Proofs.YtdhljfblkidohaaGreat
set_option linter.unusedSimpArgs false
set_option linter.unusedVariables false

/-- when all of a list may be -/
theorem eachE_all {α : Type} {most : Nat} {f : Nat → α → Nat × Nat} : ∀ (l : List α) (k : Nat), eachE most f k l = none ↔ ∀ i y, l[i]? = some y → k + i < most ∧ (f (k + i) y).2 = 0
  | [], k => by simp [eachE]
  | x :: l, k => by
    simp only [eachE]
    constructor
    · intro h
      split at h
      · cases h
      · rename_i hm
        split at h
        · cases h
        · rename_i he
          have ih := (eachE_all l (k + 1)).1 h
          intro i y hy
          cases i with
          | zero =>
            injection hy with hy
            subst hy
            exact ⟨by omega, Decidable.not_not.1 he⟩
          | succ i =>
            have := ih i y hy
            rwa [show k + 1 + i = k + (i + 1) by omega] at this
    · intro h
      obtain ⟨h1, h2⟩ := h 0 x rfl
      rw [Nat.add_zero] at h1 h2
      rw [if_neg (by omega), if_neg (by simp [h2])]
      refine (eachE_all l (k + 1)).2 fun i y hy => ?_
      have := h (i + 1) y hy
      rwa [show k + (i + 1) = k + 1 + i by omega] at this
theorem firstE_all {α : Type} {f : Nat → α → Nat} : ∀ (l : List α) (k : Nat), firstE f k l = none ↔ ∀ i y, l[i]? = some y → f (k + i) y = 0
  | [], k => by simp [firstE]
  | x :: l, k => by
    simp only [firstE]
    constructor
    · intro h
      split at h
      · cases h
      · rename_i he
        have ih := (firstE_all l (k + 1)).1 h
        intro i y hy
        cases i with
        | zero =>
          injection hy with hy
          subst hy
          exact Decidable.not_not.1 he
        | succ i =>
          have := ih i y hy
          rwa [show k + 1 + i = k + (i + 1) by omega] at this
    · intro h
      have h2 := h 0 x rfl
      rw [Nat.add_zero] at h2
      rw [if_neg (by simp [h2])]
      refine (firstE_all l (k + 1)).2 fun i y hy => ?_
      have := h (i + 1) y hy
      rwa [show k + (i + 1) = k + 1 + i by omega] at this
theorem firstE_err {α : Type} {f : Nat → α → Nat} : ∀ (l : List α) (k : Nat) (i e : Nat), firstE f k l = some (i, e) → e ≠ 0
  | [], k, i, e, h => by cases h
  | x :: l, k, i, e, h => by
    simp only [firstE] at h
    split at h
    · rename_i he
      injection h with h
      injection h with h1 h2
      subst h2
      exact he
    · exact firstE_err l (k + 1) i e h
/-- a list without one of its elements -/
def lessN {α : Type} (n : Nat) (l : List α) : List α := l.take n ++ l.drop (n + 1)
theorem lessN_at {α : Type} {n i : Nat} {l : List α} {y : α} (h : (lessN n l)[i]? = some y) : l[if i < n then i else i + 1]? = some y := by
  unfold lessN at h
  rcases Nat.lt_or_ge n l.length with hn | hn
  · have hl : (l.take n).length = n := by rw [List.length_take]; omega
    rcases Nat.lt_or_ge i n with hi | hi
    · rw [if_pos hi]
      rwa [List.getElem?_append_left (by omega), List.getElem?_take_of_lt hi] at h
    · rw [if_neg (by omega)]
      rw [List.getElem?_append_right (by omega), hl, List.getElem?_drop] at h
      rwa [show n + 1 + (i - n) = i + 1 by omega] at h
  · have hd : l.drop (n + 1) = [] := List.drop_of_length_le (by omega)
    rw [hd, List.append_nil, List.take_of_length_le hn] at h
    have := (List.getElem?_eq_some_iff.1 h).1
    rwa [if_pos (by omega)]
theorem lessN_le {α : Type} {n : Nat} {l : List α} : (lessN n l).length ≤ l.length := by
  unfold lessN
  rw [List.length_append, List.length_take, List.length_drop]
  omega
/-- what is ahead in it was ahead in the whole -/
theorem lessN_ahead {α : Type} {n i : Nat} {l : List α} {p : α → Bool} (h : (l.take (if i < n then i else i + 1)).any p = false) : ((lessN n l).take i).any p = false := by
  rw [List.any_eq_false] at h ⊢
  intro x hx
  obtain ⟨j, hj⟩ := List.mem_iff_getElem?.1 hx
  have hji : j < i := by
    have := (List.getElem?_eq_some_iff.1 hj).1
    rw [List.length_take] at this
    omega
  rw [List.getElem?_take_of_lt hji] at hj
  have h2 := lessN_at hj
  refine h x (List.mem_iff_getElem?.2 ⟨if j < n then j else j + 1, ?_⟩)
  rw [List.getElem?_take_of_lt (by split <;> split <;> omega)]
  exact h2
theorem eachE_less {α : Type} {most : Nat} {f g : Nat → α → Nat × Nat} {l : List α} (n : Nat) (h : eachE most f 0 l = none) (hg : ∀ i y, (f (if i < n then i else i + 1) y).2 = 0 → (g i y).2 = 0) : eachE most g 0 (lessN n l) = none := by
  rw [eachE_all] at h ⊢
  intro i y hy
  obtain ⟨h1, h2⟩ := h _ y (lessN_at hy)
  rw [Nat.zero_add] at h1 h2 ⊢
  refine ⟨?_, hg _ _ h2⟩
  split at h1 <;> omega
theorem firstE_less {α : Type} {f g : Nat → α → Nat} {l : List α} (n : Nat) (h : firstE f 0 l = none) (hg : ∀ i y, f (if i < n then i else i + 1) y = 0 → g i y = 0) : firstE g 0 (lessN n l) = none := by
  rw [firstE_all] at h ⊢
  intro i y hy
  have h2 := h _ y (lessN_at hy)
  rw [Nat.zero_add] at h2 ⊢
  exact hg _ _ h2
/-- of two errors in a row, none -/
theorem ite_zero {c : Prop} [Decidable c] {a e : Nat} (he : e ≠ 0) : (if c then e else a) = 0 ↔ ¬ c ∧ a = 0 := by
  by_cases h : c <;> simp [h, he]
theorem ite_zero2 {c : Prop} [Decidable c] {a : Nat × Nat} {k e : Nat} (he : e ≠ 0) : (if c then (k, e) else a).2 = 0 ↔ ¬ c ∧ a.2 = 0 := by
  by_cases h : c <;> simp [h, he]
section
variable {l : List PropDef} {n : Nat}
theorem props_less (h : firstE (propE l) 0 l = none) : firstE (propE (lessN n l)) 0 (lessN n l) = none := by
  refine firstE_less n h fun i y hy => ?_
  unfold propE at hy ⊢
  rw [ite_zero (by decide), ite_zero (by decide), ite_zero (by decide), ite_zero (by decide)] at hy ⊢
  obtain ⟨h1, h2, h3, h4⟩ := hy
  refine ⟨by split at h1 <;> omega, h2, ?_, h4⟩
  rw [Bool.not_eq_true] at h3 ⊢
  exact lessN_ahead h3
end
theorem kids_less {l : List KidDef} {n : Nat} (h : firstE (kidE l) 0 l = none) : firstE (kidE (lessN n l)) 0 (lessN n l) = none := by
  refine firstE_less n h fun i y hy => ?_
  unfold kidE at hy ⊢
  rw [ite_zero (by decide), ite_zero (by decide), ite_zero (by decide), ite_zero (by decide)] at hy ⊢
  obtain ⟨h1, h2, h3, h4⟩ := hy
  refine ⟨by split at h1 <;> omega, h2, ?_, h4⟩
  rw [Bool.not_eq_true] at h3 ⊢
  exact lessN_ahead h3
theorem refs_less {l : List RefDef} {n : Nat} (h : firstE (refE l) 0 l = none) : firstE (refE (lessN n l)) 0 (lessN n l) = none := by
  refine firstE_less n h fun i y hy => ?_
  unfold refE at hy ⊢
  rw [ite_zero (by decide), ite_zero (by decide), ite_zero (by decide)] at hy ⊢
  obtain ⟨h1, h2, h3, h4⟩ := hy
  refine ⟨by split at h1 <;> omega, h2, ?_, h4⟩
  rw [Bool.not_eq_true] at h3 ⊢
  exact lessN_ahead h3
/-- parts that may be -/
theorem partsE_all {c : Concept} : (partsE c).2 = 0 ↔ firstE (propE c.props) 0 c.props = none ∧ firstE (kidE c.kids) 0 c.kids = none ∧ firstE (refE c.refs) 0 c.refs = none := by
  unfold partsE
  cases h1 : firstE (propE c.props) 0 c.props with
  | some x => obtain ⟨k, e⟩ := x; have := firstE_err _ _ _ _ h1; simp [this]
  | none => cases h2 : firstE (kidE c.kids) 0 c.kids with
    | some x => obtain ⟨k, e⟩ := x; have := firstE_err _ _ _ _ h2; simp [this]
    | none => cases h3 : firstE (refE c.refs) 0 c.refs with
      | some x => obtain ⟨k, e⟩ := x; have := firstE_err _ _ _ _ h3; simp [this]
      | none => simp
/-- a concept in the place of another one: of the same name, and right by itself -/
structure Lesser (c c' : Concept) : Prop where
  name : c'.name = c.name
  super : c'.super = c.super
  parts : (partsE c).2 = 0 → (partsE c').2 = 0
theorem Lesser.props (c : Concept) (n : Nat) : Lesser c { c with props := lessN n c.props } := ⟨rfl, rfl, fun h => by rw [partsE_all] at h ⊢; exact ⟨props_less h.1, h.2⟩⟩
theorem Lesser.kids (c : Concept) (n : Nat) : Lesser c { c with kids := lessN n c.kids } := ⟨rfl, rfl, fun h => by rw [partsE_all] at h ⊢; exact ⟨h.1, kids_less h.2.1, h.2.2⟩⟩
theorem Lesser.refs (c : Concept) (n : Nat) : Lesser c { c with refs := lessN n c.refs } := ⟨rfl, rfl, fun h => by rw [partsE_all] at h ⊢; exact ⟨h.1, h.2.1, refs_less h.2.2⟩⟩
theorem Lesser.refl (c : Concept) : Lesser c c := ⟨rfl, rfl, id⟩
theorem conceptA_all {ahead : List Concept} {c : Concept} : (conceptA ahead c).2 = 0 ↔ ¬ okName c.name = false ∧ ¬ ahead.any (fun x => decide (x.name = c.name)) = true ∧ ¬ (c.super.size ≠ 0 ∧ okName c.super = false) ∧ ¬ c.super = c.name ∧ (partsE c).2 = 0 := by
  unfold conceptA
  rw [ite_zero2 (by decide), ite_zero2 (by decide), ite_zero2 (by decide), ite_zero2 (by decide)]
theorem any_set {α β : Type} {l : List α} {at_ i : Nat} {x y : α} {g : α → β} {q : β → Bool} (hx : l[at_]? = some x) (hg : g y = g x) : ((l.set at_ y).take i).any (fun z => q (g z)) = (l.take i).any (fun z => q (g z)) := by
  have e : ((l.set at_ y).take i).map g = (l.take i).map g := by
    apply List.ext_getElem?
    intro j
    rw [List.getElem?_map, List.getElem?_map]
    rcases Nat.lt_or_ge j i with hj | hj
    · rw [List.getElem?_take_of_lt hj, List.getElem?_take_of_lt hj, List.getElem?_set]
      by_cases h : at_ = j
      · subst h
        have hl := (List.getElem?_eq_some_iff.1 hx).1
        rw [if_pos rfl, if_pos hl, hx]
        simp [hg]
      · rw [if_neg h]
    · rw [List.getElem?_eq_none (by rw [List.length_take]; omega), List.getElem?_eq_none (by rw [List.length_take]; omega)]
  have k := congrArg (fun m => m.any q) e
  rw [List.any_map, List.any_map] at k
  exact k
theorem concepts_set {l : List Concept} {at_ : Nat} {c c' : Concept} (h : eachE 128 (conceptE l) 0 l = none) (hc : l[at_]? = some c) (hl : Lesser c c') : eachE 128 (conceptE (l.set at_ c')) 0 (l.set at_ c') = none := by
  rw [eachE_all] at h ⊢
  intro i y hy
  rw [Nat.zero_add]
  unfold conceptE
  rw [conceptA_all, any_set (g := fun z => z.name) (q := fun m => decide (m = y.name)) hc hl.name]
  rw [List.getElem?_set] at hy
  by_cases e : at_ = i
  · subst e
    have hlt := (List.getElem?_eq_some_iff.1 hc).1
    rw [if_pos rfl, if_pos hlt] at hy
    injection hy with hy
    subst hy
    have k := h _ _ hc
    rw [Nat.zero_add] at k
    unfold conceptE at k
    rw [conceptA_all] at k
    rw [hl.name, hl.super]
    exact ⟨k.1, k.2.1, k.2.2.1, k.2.2.2.1, k.2.2.2.2.1, hl.parts k.2.2.2.2.2⟩
  · rw [if_neg e] at hy
    have k := h _ _ hy
    rw [Nat.zero_add] at k
    unfold conceptE at k
    rw [conceptA_all] at k
    exact k
theorem rowE_all {most : Int} {concept : ByteArray} {had : Bool} {l : List Cell} : (rowE most concept had l).2 = 0 ↔ ¬ okName concept = false ∧ ¬ had = true ∧ ¬ 64 < l.length ∧ firstE (fun _ c => cellE most c) 0 l = none := by
  unfold rowE
  rw [ite_zero2 (by decide), ite_zero2 (by decide), ite_zero2 (by decide)]
  cases h : firstE (fun _ c => cellE most c) 0 l with
  | none => simp
  | some x => obtain ⟨k, e⟩ := x; have := firstE_err _ _ _ _ h; simp [this]
theorem rowE_less {most : Int} {concept : ByteArray} {had : Bool} {l : List Cell} (n : Nat) (h : (rowE most concept had l).2 = 0) : (rowE most concept had (lessN n l)).2 = 0 := by
  rw [rowE_all] at h ⊢
  refine ⟨h.1, h.2.1, ?_, firstE_less n h.2.2.2 fun _ _ e => e⟩
  have := lessN_le (n := n) (l := l)
  omega
theorem editors_set {l : List Editor} {at_ n : Nat} {c : Editor} (h : eachE 256 (editorE l) 0 l = none) (hc : l[at_]? = some c) : eachE 256 (editorE (l.set at_ { c with cells := lessN n c.cells })) 0 (l.set at_ { c with cells := lessN n c.cells }) = none := by
  rw [eachE_all] at h ⊢
  intro i y hy
  rw [Nat.zero_add]
  unfold editorE
  rw [any_set (y := { c with cells := lessN n c.cells }) (g := fun z => z.concept) (q := fun m => decide (m = y.concept)) hc rfl]
  rw [List.getElem?_set] at hy
  by_cases e : at_ = i
  · subst e
    have hlt := (List.getElem?_eq_some_iff.1 hc).1
    rw [if_pos rfl, if_pos hlt] at hy
    injection hy with hy
    subst hy
    have k := h _ _ hc
    rw [Nat.zero_add] at k
    exact ⟨k.1, rowE_less n k.2⟩
  · rw [if_neg e] at hy
    have k := h _ _ hy
    rw [Nat.zero_add] at k
    exact k
theorem templates_set {l : List Template} {at_ n : Nat} {c : Template} (h : eachE 256 (templateE l) 0 l = none) (hc : l[at_]? = some c) : eachE 256 (templateE (l.set at_ { c with pieces := lessN n c.pieces })) 0 (l.set at_ { c with pieces := lessN n c.pieces }) = none := by
  rw [eachE_all] at h ⊢
  intro i y hy
  rw [Nat.zero_add]
  unfold templateE
  rw [any_set (y := { c with pieces := lessN n c.pieces }) (g := fun z => z.concept) (q := fun m => decide (m = y.concept)) hc rfl]
  rw [List.getElem?_set] at hy
  by_cases e : at_ = i
  · subst e
    have hlt := (List.getElem?_eq_some_iff.1 hc).1
    rw [if_pos rfl, if_pos hlt] at hy
    injection hy with hy
    subst hy
    have k := h _ _ hc
    rw [Nat.zero_add] at k
    exact ⟨k.1, rowE_less n k.2⟩
  · rw [if_neg e] at hy
    have k := h _ _ hy
    rw [Nat.zero_add] at k
    exact k
section
variable {d : Language} (h : FreeE d) (n : Nat)
include h
theorem less_uses : FreeE { d with uses := lessN n d.uses } := by
  obtain ⟨h1, h2, h3, h4, h5, h6, h7, h8⟩ := h
  refine ⟨h1, h2, eachE_less n h3 fun i y hy => ?_, h4, h5, h6, h7, h8⟩
  unfold useE at hy ⊢
  rw [ite_zero2 (by decide), ite_zero2 (by decide), ite_zero2 (by decide)] at hy ⊢
  obtain ⟨k1, k2, k3, k4⟩ := hy
  refine ⟨k1, k2, ?_, rfl⟩
  rw [Bool.not_eq_true] at k3 ⊢
  exact lessN_ahead k3
theorem less_concepts : FreeE { d with concepts := lessN n d.concepts } := by
  obtain ⟨h1, h2, h3, h4, h5, h6, h7, h8⟩ := h
  refine ⟨h1, h2, h3, eachE_less n h4 fun i y hy => ?_, h5, h6, h7, h8⟩
  unfold conceptE at hy ⊢
  rw [conceptA_all] at hy ⊢
  obtain ⟨k1, k2, k3⟩ := hy
  rw [Bool.not_eq_true] at k2
  exact ⟨k1, by rw [Bool.not_eq_true]; exact lessN_ahead k2, k3⟩
theorem less_rules : FreeE { d with rules := lessN n d.rules } := by
  obtain ⟨h1, h2, h3, h4, h5, h6, h7, h8⟩ := h
  refine ⟨h1, h2, h3, h4, eachE_less n h5 fun i y hy => ?_, h6, h7, h8⟩
  unfold ruleE at hy ⊢
  rw [ite_zero2 (by decide), ite_zero2 (by decide), ite_zero2 (by decide)] at hy ⊢
  obtain ⟨k1, k2, k3, k4⟩ := hy
  rw [Bool.not_eq_true] at k2
  exact ⟨k1, by rw [Bool.not_eq_true]; exact lessN_ahead k2, k3, k4⟩
theorem less_equations : FreeE { d with equations := lessN n d.equations } := by
  obtain ⟨h1, h2, h3, h4, h5, h6, h7, h8⟩ := h
  exact ⟨h1, h2, h3, h4, h5, eachE_less n h6 fun i y hy => hy, h7, h8⟩
theorem less_editors : FreeE { d with editors := lessN n d.editors } := by
  obtain ⟨h1, h2, h3, h4, h5, h6, h7, h8⟩ := h
  refine ⟨h1, h2, h3, h4, h5, h6, eachE_less n h7 fun i y hy => ?_, h8⟩
  unfold editorE at hy ⊢
  rw [rowE_all] at hy ⊢
  obtain ⟨k1, k2, k3⟩ := hy
  rw [Bool.not_eq_true] at k2
  exact ⟨k1, by rw [Bool.not_eq_true]; exact lessN_ahead k2, k3⟩
theorem less_templates : FreeE { d with templates := lessN n d.templates } := by
  obtain ⟨h1, h2, h3, h4, h5, h6, h7, h8⟩ := h
  refine ⟨h1, h2, h3, h4, h5, h6, h7, eachE_less n h8 fun i y hy => ?_⟩
  unfold templateE at hy ⊢
  rw [rowE_all] at hy ⊢
  obtain ⟨k1, k2, k3⟩ := hy
  rw [Bool.not_eq_true] at k2
  exact ⟨k1, by rw [Bool.not_eq_true]; exact lessN_ahead k2, k3⟩
theorem less_concept {at_ : Nat} {c c' : Concept} (hc : d.concepts[at_]? = some c) (hl : Lesser c c') : FreeE { d with concepts := d.concepts.set at_ c' } := by
  obtain ⟨h1, h2, h3, h4, h5, h6, h7, h8⟩ := h
  exact ⟨h1, h2, h3, concepts_set h4 hc hl, h5, h6, h7, h8⟩
theorem less_editor {at_ : Nat} {c : Editor} (hc : d.editors[at_]? = some c) : FreeE { d with editors := d.editors.set at_ { c with cells := lessN n c.cells } } := by
  obtain ⟨h1, h2, h3, h4, h5, h6, h7, h8⟩ := h
  exact ⟨h1, h2, h3, h4, h5, h6, editors_set h7 hc, h8⟩
theorem less_template {at_ : Nat} {c : Template} (hc : d.templates[at_]? = some c) : FreeE { d with templates := d.templates.set at_ { c with pieces := lessN n c.pieces } } := by
  obtain ⟨h1, h2, h3, h4, h5, h6, h7, h8⟩ := h
  exact ⟨h1, h2, h3, h4, h5, h6, h7, templates_set h8 hc⟩
end
end Go.Proofs.YtdhljfblkidohaaGreat
