/- The plain law of quotes: at each place one byte's form is the first that fits, and where none fits, the farthest goes as far as the other reading says. -/
import Derived.Test.YtdkoafmgenbkbaaDoorChar
namespace Go.Proofs.YtdkoafmgenbkbaaDoor
set_option linter.unusedSimpArgs false
set_option linter.unusedVariables false

/-- what stands behind a '\' -/
def esc : List Nat → Option (Nat × Nat) × Nat
  | [] => (none, 1)
  | d :: t => if d = 34 ∨ d = 92 then (some (d, 2), 2) else if d = 110 then (some (10, 2), 2) else if d ≠ 120 then (none, 1) else
    match t with
    | [] => (none, 2)
    | h :: t => if 15 < digitN h ∨ (hiddenN (16 * digitN h) = false ∧ hiddenN (16 * digitN h + 15) = false) then (none, 2) else
      match t with
      | [] => (none, 3)
      | l :: _ => if 15 < digitN l ∨ hiddenN (16 * digitN h + digitN l) = false then (none, 3) else (some (16 * digitN h + digitN l, 4), 4)
/-- one byte's form, read: the byte and how many bytes it takes, or how many are right -/
def one : List Nat → Option (Nat × Nat) × Nat
  | [] => (none, 0)
  | c :: t => if c = 92 then esc t else if c < 32 ∨ 126 < c then (none, 0) else (some (c, 1), 1)
/-- how many two lists begin with alike -/
def common : List Nat → List Nat → Nat
  | a :: l, b :: m => if a = b then common l m + 1 else 0
  | _, _ => 0

theorem digit_hex (k : Nat) (h : k < 16) : digitN (hexN k) = k := by
  have : ∀ k : Fin 16, digitN (hexN k.1) = k.1 := by decide
  exact this ⟨k, h⟩
theorem hex_of_digit (n : Nat) (h : digitN n ≤ 15) : hexN (digitN n) = n := by
  unfold digitN at h ⊢
  unfold hexN
  split at h
  · rename_i h1
    rw [if_pos h1, if_pos (by omega)]; omega
  · rename_i h1
    split at h
    · rename_i h2
      rw [if_neg h1, if_pos h2, if_neg (by omega)]; omega
    · omega
theorem form_hidden {c : Nat} (h : hiddenN c = true) : formN c = [92, 120, hexN (c / 16), hexN (c % 16)] := by
  simp only [hiddenN, decide_eq_true_eq] at h
  unfold formN
  rw [if_neg (by omega), if_neg (by omega), if_neg (by omega), if_neg (by omega)]
theorem form_plain {c : Nat} (h1 : 32 ≤ c) (h2 : c ≤ 126) (h3 : c ≠ 34) (h4 : c ≠ 92) : formN c = [c] := by
  unfold formN
  rw [if_neg h3, if_neg h4, if_neg (by omega), if_pos ⟨h1, h2⟩]
/-- a byte's form, by its four kinds -/
theorem form_cases (c : Nat) : (c = 34 ∧ formN c = [92, 34]) ∨ (c = 92 ∧ formN c = [92, 92]) ∨ (c = 10 ∧ formN c = [92, 110]) ∨ (32 ≤ c ∧ c ≤ 126 ∧ c ≠ 34 ∧ c ≠ 92 ∧ formN c = [c]) ∨ (hiddenN c = true ∧ formN c = [92, 120, hexN (c / 16), hexN (c % 16)]) := by
  by_cases h1 : c = 34
  · subst h1; exact Or.inl ⟨rfl, rfl⟩
  by_cases h2 : c = 92
  · subst h2; exact Or.inr (Or.inl ⟨rfl, rfl⟩)
  by_cases h3 : c = 10
  · subst h3; exact Or.inr (Or.inr (Or.inl ⟨rfl, rfl⟩))
  by_cases h4 : 32 ≤ c ∧ c ≤ 126
  · exact Or.inr (Or.inr (Or.inr (Or.inl ⟨h4.1, h4.2, h1, h2, form_plain h4.1 h4.2 h1 h2⟩)))
  · have h : hiddenN c = true := by simp only [hiddenN, decide_eq_true_eq]; omega
    exact Or.inr (Or.inr (Or.inr (Or.inr ⟨h, form_hidden h⟩)))
theorem form_len (c : Nat) : 1 ≤ (formN c).length ∧ (formN c).length ≤ 4 := by
  rcases form_cases c with ⟨_, h⟩ | ⟨_, h⟩ | ⟨_, h⟩ | ⟨_, _, _, _, h⟩ | ⟨_, h⟩ <;> rw [h] <;> simp
theorem row_hidden {c : Nat} (hc : c < 256) (h : hiddenN c = true) : hiddenN (16 * (c / 16)) = true ∨ hiddenN (16 * (c / 16) + 15) = true := by
  simp only [hiddenN, decide_eq_true_eq] at *
  omega

/-- a form that fits is what is read -/
theorem one_of_form {c : Nat} (hc : c < 256) (t : List Nat) : one (formN c ++ t) = (some (c, (formN c).length), (formN c).length) := by
  rcases form_cases c with ⟨rfl, h⟩ | ⟨rfl, h⟩ | ⟨rfl, h⟩ | ⟨h1, h2, h3, h4, h⟩ | ⟨h0, h⟩
  · rfl
  · rfl
  · rfl
  · rw [h]
    show (if c = 92 then _ else _) = _
    rw [if_neg h4, if_neg (by omega)]
    rfl
  · rw [h]
    have d1 := digit_hex (c / 16) (by omega)
    have d2 := digit_hex (c % 16) (by omega)
    have e : 16 * (c / 16) + c % 16 = c := by omega
    have hr := row_hidden hc h0
    have k1 : ¬ (15 < c / 16 ∨ (hiddenN (16 * (c / 16)) = false ∧ hiddenN (16 * (c / 16) + 15) = false)) := by
      intro hh
      rcases hh with hh | ⟨a, b⟩
      · omega
      · rw [a, b] at hr; simp at hr
    have k2 : ¬ (15 < c % 16 ∨ hiddenN c = false) := by
      intro hh
      rcases hh with hh | a
      · omega
      · rw [a] at h0; cases h0
    simp only [List.cons_append, List.nil_append, one, esc, d1, d2, e]
    rw [if_pos trivial, if_neg (by omega), if_neg (by omega), if_neg (by simp), if_neg k1, if_neg k2]
    rfl
theorem common_le_left : ∀ (l m : List Nat), common l m ≤ l.length
  | [], _ => by simp [common]
  | _ :: _, [] => by simp [common]
  | a :: l, b :: m => by
    simp only [common, List.length_cons]
    split
    · have := common_le_left l m; omega
    · omega
theorem common_full : ∀ (l m : List Nat), common l m = l.length → ∃ t, m = l ++ t
  | [], m, _ => ⟨m, rfl⟩
  | _ :: _, [], h => by simp [common] at h
  | a :: l, b :: m, h => by
    simp only [common, List.length_cons] at h
    split at h
    · rename_i e
      obtain ⟨t, ht⟩ := common_full l m (by omega)
      exact ⟨t, by rw [ht, e]; rfl⟩
    · omega
/-- where none fits: how far the farthest goes -/
theorem one_none {r : List Nat} (hr : Bytes r) {far : Nat} (h : one r = (none, far)) : (∀ c, c < 256 → common (formN c) r ≤ far) ∧ (∃ c, c < 256 ∧ common (formN c) r = far) := by
  have f34 : formN 34 = [92, 34] := rfl
  have f0 : formN 0 = [92, 120, 48, 48] := rfl
  match r, h, hr with
  | [], h, _ =>
    simp only [one, Prod.mk.injEq, true_and] at h
    subst h
    exact ⟨fun c _ => by cases formN c <;> simp [common], 0, by omega, rfl⟩
  | b :: t, h, hr =>
    by_cases hb : b = 92
    · subst hb
      simp only [one, if_pos] at h
      have key : ∀ c, c < 256 → common (formN c) (92 :: t) = (match formN c with | 92 :: f => common f t + 1 | _ => 0) := by
        intro c hc
        rcases form_cases c with ⟨_, h⟩ | ⟨_, h⟩ | ⟨_, h⟩ | ⟨_, _, _, h4, h⟩ | ⟨_, h⟩ <;> rw [h] <;> simp [common, *]
      match t, h, hr with
      | [], h, _ =>
        simp only [esc, Prod.mk.injEq, true_and] at h
        subst h
        refine ⟨fun c hc => ?_, 34, by omega, by rw [f34]; rfl⟩
        rw [key c hc]
        rcases form_cases c with ⟨_, h⟩ | ⟨_, h⟩ | ⟨_, h⟩ | ⟨_, _, _, h4, h⟩ | ⟨_, h⟩ <;> rw [h] <;> simp [common, *]
      | d :: t, h, hr =>
        by_cases hd : d = 34 ∨ d = 92
        · simp [esc, hd] at h
        · by_cases hn : d = 110
          · simp [esc, hn] at h
          · by_cases hx : d = 120
            · subst hx
              match t, h, hr with
              | [], h, _ =>
                simp [esc] at h
                subst h
                refine ⟨fun c hc => ?_, 0, by omega, by rw [f0]; rfl⟩
                rw [key c hc]
                rcases form_cases c with ⟨_, h⟩ | ⟨_, h⟩ | ⟨_, h⟩ | ⟨_, _, _, h4, h⟩ | ⟨_, h⟩ <;> rw [h] <;> simp [common, *]
              | hh :: t, h, hr =>
                by_cases hg : 15 < digitN hh ∨ (hiddenN (16 * digitN hh) = false ∧ hiddenN (16 * digitN hh + 15) = false)
                · simp [esc, hg] at h
                  subst h
                  refine ⟨fun c hc => ?_, ?_⟩
                  · rw [key c hc]
                    rcases form_cases c with ⟨_, h⟩ | ⟨_, h⟩ | ⟨_, h⟩ | ⟨_, _, _, h4, h⟩ | ⟨h0, h⟩ <;> rw [h] <;> simp [common, *]
                    have hne : hexN (c / 16) ≠ hh := by
                      intro e
                      have d1 := digit_hex (c / 16) (by omega)
                      rw [e] at d1
                      rw [d1] at hg
                      have := row_hidden hc h0
                      rcases hg with hg | ⟨a, b⟩
                      · omega
                      · rw [a, b] at this; simp at this
                    simp [hne]
                  · -- a hidden byte of another row
                    by_cases h48 : hh = 48
                    · subst h48
                      exfalso
                      revert hg
                      decide
                    · exact ⟨0, by omega, by rw [f0]; simp [common, Ne.symm h48]⟩
                · have hg1 : digitN hh ≤ 15 := by omega
                  have hg2 : hiddenN (16 * digitN hh) = true ∨ hiddenN (16 * digitN hh + 15) = true := by
                    by_cases a : hiddenN (16 * digitN hh) = true
                    · exact Or.inl a
                    · refine Or.inr ?_
                      by_cases b : hiddenN (16 * digitN hh + 15) = true
                      · exact b
                      · exact absurd (Or.inr ⟨by simpa using a, by simpa using b⟩) hg
                  have hex := hex_of_digit hh hg1
                  have wit : ∃ c, c < 256 ∧ hiddenN c = true ∧ c / 16 = digitN hh := by
                    rcases hg2 with a | a
                    · exact ⟨_, by omega, a, by omega⟩
                    · exact ⟨_, by omega, a, by omega⟩
                  match t, h, hr with
                  | [], h, _ =>
                    simp [esc, hg] at h
                    subst h
                    refine ⟨fun c hc => ?_, ?_⟩
                    · rw [key c hc]
                      rcases form_cases c with ⟨_, h⟩ | ⟨_, h⟩ | ⟨_, h⟩ | ⟨_, _, _, h4, h⟩ | ⟨h0, h⟩ <;> rw [h] <;> simp [common, *]
                      split <;> omega
                    · obtain ⟨c, hc, h0, h1⟩ := wit
                      exact ⟨c, hc, by rw [form_hidden h0, h1, hex]; simp [common]⟩
                  | lo :: t, h, hr =>
                    by_cases hl : 15 < digitN lo ∨ hiddenN (16 * digitN hh + digitN lo) = false
                    · simp [esc, hg, hl] at h
                      subst h
                      have no : ∀ c, c < 256 → hiddenN c = true → c / 16 = digitN hh → hexN (c % 16) ≠ lo := by
                        intro c hc h0 h1 e
                        have d1 := digit_hex (c % 16) (by omega)
                        rw [e] at d1
                        rcases hl with hl | hl
                        · omega
                        · have : 16 * digitN hh + digitN lo = c := by omega
                          rw [this, h0] at hl
                          cases hl
                      refine ⟨fun c hc => ?_, ?_⟩
                      · rw [key c hc]
                        rcases form_cases c with ⟨_, h⟩ | ⟨_, h⟩ | ⟨_, h⟩ | ⟨_, _, _, h4, h⟩ | ⟨h0, h⟩ <;> rw [h] <;> simp [common, *]
                        by_cases e : hexN (c / 16) = hh
                        · have h1 : c / 16 = digitN hh := by rw [← e, digit_hex (c / 16) (by omega)]
                          have := no c hc h0 h1
                          simp [e, this]
                        · simp [e]
                      · obtain ⟨c, hc, h0, h1⟩ := wit
                        exact ⟨c, hc, by rw [form_hidden h0, h1, hex]; simp [common, no c hc h0 h1]⟩
                    · simp [esc, hg, hl] at h
            · have hd' : ¬ d = 34 ∧ ¬ d = 92 := by omega
              simp [esc, hd'.1, hd'.2, hn, hx] at h
              subst h
              refine ⟨fun c hc => ?_, 34, by omega, by rw [f34]; simp [common, Ne.symm hd'.1]⟩
              rw [key c hc]
              rcases form_cases c with ⟨_, h⟩ | ⟨_, h⟩ | ⟨_, h⟩ | ⟨_, _, _, h4, h⟩ | ⟨_, h⟩ <;> rw [h] <;> simp [common, Ne.symm hd'.1, Ne.symm hd'.2, Ne.symm hn, Ne.symm hx, *]
    · by_cases hp : b < 32 ∨ 126 < b
      · simp [one, hb, hp] at h
        subst h
        refine ⟨fun c hc => ?_, 0, by omega, by rw [f0]; simp [common, Ne.symm hb]⟩
        rcases form_cases c with ⟨_, h⟩ | ⟨_, h⟩ | ⟨_, h⟩ | ⟨h1, h2, _, h4, h⟩ | ⟨_, h⟩ <;> rw [h] <;> simp [common, Ne.symm hb]
        omega
      · simp [one, hb, hp] at h
end Go.Proofs.YtdkoafmgenbkbaaDoor
