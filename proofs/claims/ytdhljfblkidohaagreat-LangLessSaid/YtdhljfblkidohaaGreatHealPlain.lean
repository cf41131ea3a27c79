/- The plain laws of chapter 04: an element more at the end of a list of a definition that may be has a fault there, or none; an element less leaves one that may be. -/
import Derived.Test.YtdhljfblkidohaaGreatChkPlain
namespace Go.Proofs.YtdhljfblkidohaaGreat
set_option linter.unusedSimpArgs false
set_option linter.unusedVariables false

/-- an element more -/
theorem eachE_put {α : Type} {most : Nat} {f g : Nat → α → Nat × Nat} : ∀ (l : List α) (k : Nat) (x : α), (∀ i y, l[i]? = some y → g (k + i) y = f (k + i) y) → eachE most f k l = none → eachE most g k (l ++ [x]) = none ∨ ∃ p e, eachE most g k (l ++ [x]) = some (k + l.length, p, e)
  | [], k, x, _, _ => by
    simp only [List.nil_append, eachE]
    split
    · exact Or.inr ⟨_, _, rfl⟩
    · split
      · exact Or.inr ⟨_, _, rfl⟩
      · exact Or.inl rfl
  | y :: l, k, x, hg, h => by
    simp only [eachE] at h
    split at h
    · cases h
    · rename_i hm
      split at h
      · cases h
      · rename_i he
        have h0 := hg 0 y rfl
        rw [Nat.add_zero] at h0
        simp only [List.cons_append, eachE]
        rw [if_neg hm, h0, if_neg he]
        rcases eachE_put (g := g) l (k + 1) x (fun i z hz => by have := hg (i + 1) z (by simpa using hz); rwa [show k + (i + 1) = k + 1 + i by omega] at this) h with h1 | ⟨p, e, h1⟩
        · exact Or.inl h1
        · refine Or.inr ⟨p, e, ?_⟩
          rw [h1, List.length_cons, show k + 1 + l.length = k + (l.length + 1) by omega]
/-- a definition that may be -/
def FreeE (d : Language) : Prop := okName d.name = true ∧ ¬ d.version < 1 ∧ eachE 8 (useE d) 0 d.uses = none ∧ eachE 128 (conceptE d.concepts) 0 d.concepts = none ∧ eachE 256 (ruleE d.rules) 0 d.rules = none ∧ eachE 256 equationE 0 d.equations = none ∧ eachE 256 (editorE d.editors) 0 d.editors = none ∧ eachE 256 (templateE d.templates) 0 d.templates = none
theorem check_free {d : Language} : checkE d = ⟨0, 0, 0, 0⟩ ↔ FreeE d := by
  unfold checkE FreeE
  cases hn : okName d.name
  · simp
  · simp only [Bool.true_eq_false, if_false]
    by_cases hv : d.version < 1
    · simp [hv]
    · rw [if_neg hv]
      cases h1 : eachE 8 (useE d) 0 d.uses <;> cases h2 : eachE 128 (conceptE d.concepts) 0 d.concepts <;> cases h3 : eachE 256 (ruleE d.rules) 0 d.rules <;> cases h4 : eachE 256 equationE 0 d.equations <;> cases h5 : eachE 256 (editorE d.editors) 0 d.editors <;> cases h6 : eachE 256 (templateE d.templates) 0 d.templates <;> simp [fltOf, hv]
/-- what an element more comes to -/
def Heals (d : Language) (n at_ : Nat) : Prop := checkE d = ⟨0, 0, 0, 0⟩ ∨ ((checkE d).list = n ∧ (checkE d).at_ = at_)
theorem take_put {α : Type} {l : List α} {i : Nat} {y x : α} (h : l[i]? = some y) : (l ++ [x]).take i = l.take i := List.take_append_of_le_length (Nat.le_of_lt (List.getElem?_eq_some_iff.1 h).1)
section
variable {d : Language} (h : FreeE d)
include h
theorem heals_uses (s : ByteArray) : Heals { d with uses := d.uses ++ [s] } 1 d.uses.length := by
  obtain ⟨h1, h2, h3, h4, h5, h6, h7, h8⟩ := h
  have key := eachE_put (g := useE { d with uses := d.uses ++ [s] }) d.uses 0 s (fun i y hy => by
    rw [Nat.zero_add]
    unfold useE
    simp only
    rw [take_put hy]) h3
  rw [Nat.zero_add] at key
  unfold Heals checkE
  simp only
  rw [h1, if_neg (by simp), if_neg h2]
  rcases key with k | ⟨p, e, k⟩
  · rw [k, h4, h5, h6, h7, h8]; exact Or.inl rfl
  · rw [k]; exact Or.inr ⟨rfl, rfl⟩
theorem heals_concepts (x : Concept) : Heals { d with concepts := d.concepts ++ [x] } 2 d.concepts.length := by
  obtain ⟨h1, h2, h3, h4, h5, h6, h7, h8⟩ := h
  have key := eachE_put (g := conceptE (d.concepts ++ [x])) d.concepts 0 x (fun i y hy => by rw [Nat.zero_add]; unfold conceptE; rw [take_put hy]) h4
  rw [Nat.zero_add] at key
  have h3' : eachE 8 (useE { d with concepts := d.concepts ++ [x] }) 0 d.uses = none := h3
  unfold Heals checkE
  simp only
  rw [h1, if_neg (by simp), if_neg h2, h3']
  rcases key with k | ⟨p, e, k⟩
  · rw [k, h5, h6, h7, h8]; exact Or.inl rfl
  · rw [k]; exact Or.inr ⟨rfl, rfl⟩
theorem heals_rules (x : Rule) : Heals { d with rules := d.rules ++ [x] } 3 d.rules.length := by
  obtain ⟨h1, h2, h3, h4, h5, h6, h7, h8⟩ := h
  have key := eachE_put (g := ruleE (d.rules ++ [x])) d.rules 0 x (fun i y hy => by rw [Nat.zero_add]; unfold ruleE; rw [take_put hy]) h5
  rw [Nat.zero_add] at key
  have h3' : eachE 8 (useE { d with rules := d.rules ++ [x] }) 0 d.uses = none := h3
  unfold Heals checkE
  simp only
  rw [h1, if_neg (by simp), if_neg h2, h3', h4]
  rcases key with k | ⟨p, e, k⟩
  · rw [k, h6, h7, h8]; exact Or.inl rfl
  · rw [k]; exact Or.inr ⟨rfl, rfl⟩
theorem heals_equations (x : Equation) : Heals { d with equations := d.equations ++ [x] } 4 d.equations.length := by
  obtain ⟨h1, h2, h3, h4, h5, h6, h7, h8⟩ := h
  have key := eachE_put (g := equationE) d.equations 0 x (fun i y hy => rfl) h6
  rw [Nat.zero_add] at key
  have h3' : eachE 8 (useE { d with equations := d.equations ++ [x] }) 0 d.uses = none := h3
  unfold Heals checkE
  simp only
  rw [h1, if_neg (by simp), if_neg h2, h3', h4, h5]
  rcases key with k | ⟨p, e, k⟩
  · rw [k, h7, h8]; exact Or.inl rfl
  · rw [k]; exact Or.inr ⟨rfl, rfl⟩
theorem heals_editors (x : Editor) : Heals { d with editors := d.editors ++ [x] } 5 d.editors.length := by
  obtain ⟨h1, h2, h3, h4, h5, h6, h7, h8⟩ := h
  have key := eachE_put (g := editorE (d.editors ++ [x])) d.editors 0 x (fun i y hy => by rw [Nat.zero_add]; unfold editorE; rw [take_put hy]) h7
  rw [Nat.zero_add] at key
  have h3' : eachE 8 (useE { d with editors := d.editors ++ [x] }) 0 d.uses = none := h3
  unfold Heals checkE
  simp only
  rw [h1, if_neg (by simp), if_neg h2, h3', h4, h5, h6]
  rcases key with k | ⟨p, e, k⟩
  · rw [k, h8]; exact Or.inl rfl
  · rw [k]; exact Or.inr ⟨rfl, rfl⟩
theorem heals_templates (x : Template) : Heals { d with templates := d.templates ++ [x] } 6 d.templates.length := by
  obtain ⟨h1, h2, h3, h4, h5, h6, h7, h8⟩ := h
  have key := eachE_put (g := templateE (d.templates ++ [x])) d.templates 0 x (fun i y hy => by rw [Nat.zero_add]; unfold templateE; rw [take_put hy]) h8
  rw [Nat.zero_add] at key
  have h3' : eachE 8 (useE { d with templates := d.templates ++ [x] }) 0 d.uses = none := h3
  unfold Heals checkE
  simp only
  rw [h1, if_neg (by simp), if_neg h2, h3', h4, h5, h6, h7]
  rcases key with k | ⟨p, e, k⟩
  · rw [k]; exact Or.inl rfl
  · rw [k]; exact Or.inr ⟨rfl, rfl⟩
end
/-- how many there may be -/
theorem eachE_few {α : Type} {most : Nat} {f : Nat → α → Nat × Nat} : ∀ (l : List α) (k : Nat), k ≤ most → eachE most f k l = none → k + l.length ≤ most
  | [], k, hk, _ => by simpa using hk
  | y :: l, k, hk, h => by
    simp only [eachE] at h
    split at h
    · cases h
    · split at h
      · cases h
      · have := eachE_few l (k + 1) (by omega) h
        rw [List.length_cons]
        omega
end Go.Proofs.YtdhljfblkidohaaGreat
