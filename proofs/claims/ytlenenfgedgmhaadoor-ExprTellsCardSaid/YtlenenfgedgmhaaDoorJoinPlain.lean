/- The plain law of joined tokens: which may be, how they are shown, the text. -/
import Derived.Test.YtlenenfgedgmhaaDoorScan
namespace Go.Proofs.YtlenenfgedgmhaaDoor
set_option linter.unusedSimpArgs false
set_option linter.unusedVariables false

def mayN (t : Tok) : Bool :=
  if t.kind = 1 then decide (0 ≤ t.num) && decide (t.text = [])
  else if t.num ≠ 0 then false
  else if t.kind = 2 then true
  else if t.kind = 3 then rightN t.text && !decide (t.text ∈ wordsL)
  else if t.kind = 4 then decide (t.text ∈ wordsL)
  else if t.kind = 5 then decide (t.text ∈ marksL)
  else false
def shownN (t : Tok) : List Nat := if t.kind = 1 then showN t.num else if t.kind = 2 then quoteN t.text else t.text
/-- the whole text behind what there is -/
def joinAll (o : List Nat) (first : Bool) : List Tok → List Nat
  | [] => o
  | t :: r => joinAll ((if first then o else o ++ [32]) ++ shownN t) false r
def joinN (l : List Tok) : List Nat × Nat := if l.all mayN = true then (if 4096 < (joinAll [] true l).length then ([], 3) else (joinAll [] true l, 0)) else ([], 2)

theorem joinAll_le : ∀ (l : List Tok) (o : List Nat) (b : Bool), o.length ≤ (joinAll o b l).length
  | [], o, b => Nat.le_refl _
  | t :: r, o, b => by
    have := joinAll_le r ((if b then o else o ++ [32]) ++ shownN t) false
    have h2 : o.length ≤ ((if b then o else o ++ [32]) ++ shownN t).length := by cases b <;> simp <;> omega
    unfold joinAll
    omega
theorem quote_len (l : List Nat) : l.length ≤ (l.flatMap formN).length := by
  induction l with
  | nil => simp
  | cons a l ih =>
    have := (form_len a).1
    simp only [List.flatMap_cons, List.length_append, List.length_cons]
    omega
theorem shown_len {t : Tok} (h : mayN t = true) : t.text.length ≤ (shownN t).length := by
  unfold shownN
  split
  · rename_i hk
    unfold mayN at h
    rw [if_pos hk, Bool.and_eq_true, decide_eq_true_eq, decide_eq_true_eq] at h
    rw [h.2]
    simp
  · split
    · unfold quoteN
      have := quote_len t.text
      simp only [List.length_cons, List.length_append, List.length_nil]
      omega
    · exact Nat.le_refl _
theorem joinAll_cons (o : List Nat) (b : Bool) (t : Tok) (r : List Tok) : joinAll o b (t :: r) = joinAll ((if b then o else o ++ [32]) ++ shownN t) false r := rfl
/-- where it is too long already -/
theorem join_long {l : List Tok} {t : Tok} {o : List Nat} {b : Bool} (h : mayN t = true) (hl : 4096 < (if b then o else o ++ [32]).length + t.text.length) : 4096 < (joinAll o b (t :: l)).length := by
  rw [joinAll_cons]
  have h1 := joinAll_le l ((if b then o else o ++ [32]) ++ shownN t) false
  have h2 := shown_len h
  rw [List.length_append] at h1
  omega
theorem join_long2 {l : List Tok} {t : Tok} {o : List Nat} {b : Bool} (h : mayN t = true) (hl : 4096 < t.text.length ∨ 4096 < o.length) : 4096 < (joinAll o b (t :: l)).length := by
  have := joinAll_le (t :: l) o b
  rcases hl with hl | hl
  · refine join_long h ?_; omega
  · omega
theorem number_not_right {s : List Nat} {v : Int} (h : isNumber s = some v) : rightN s = false ∧ s ∉ wordsL ∧ s ∉ marksL := by
  have hok := ok_isNumber h
  cases s with
  | nil => exact absurd rfl hok.2.1
  | cons c t =>
    have hc : 48 ≤ c ∧ c ≤ 57 := hok.1 c (by simp)
    refine ⟨no_right_digit hc t, fun hm => ?_, fun hm => ?_⟩
    · have : letterN c = true := by
        have := List.all_eq_true.1 words_letter _ hm
        exact this
      have := letter_cases this
      omega
    · have : ∀ m ∈ marksL, ∀ x ∈ m.head?, ¬ (48 ≤ x ∧ x ≤ 57) := by decide
      exact this _ hm c rfl hc
theorem word_right {s : List Nat} (h : s ∈ wordsL) : rightN s = true := by
  have : ∀ m ∈ wordsL, rightN m = true := by decide
  exact this s h
theorem mark_not_right {s : List Nat} (h : s ∈ marksL) : rightN s = false := by
  have : ∀ m ∈ marksL, rightN m = false := by decide
  exact this s h
/-- the chapter's words for a name, a word, a mark -/
theorem may_same (t : Tok) (h : t.kind = 3 ∨ t.kind = 4 ∨ t.kind = 5) : mayN t = ((match wholeN t.text with | some (k, _, _) => decide ((k : Int) = t.kind) | none => false) && decide (t.num = 0)) := by
  unfold mayN
  rw [if_neg (by omega)]
  by_cases hn : t.num = 0
  · rw [if_neg (by simpa using hn), if_neg (by omega), decide_eq_true hn, Bool.and_true]
    unfold wholeN
    cases hi : isNumber t.text with
    | some v =>
      obtain ⟨h1, h2, h3⟩ := number_not_right hi
      simp only [h1, h2, h3]
      rcases h with h | h | h <;> rw [h] <;> simp
    | none =>
      simp only
      by_cases hw : t.text ∈ wordsL
      · have hr := word_right hw
        have hm : t.text ∉ marksL := fun hm => by rw [mark_not_right hm] at hr; cases hr
        rw [if_pos hw]
        rcases h with h | h | h <;> rw [h] <;> simp [hw, hm]
      · rw [if_neg hw]
        by_cases hr : rightN t.text = true
        · have hm : t.text ∉ marksL := fun hm => by rw [mark_not_right hm] at hr; cases hr
          rw [if_pos hr]
          rcases h with h | h | h <;> rw [h] <;> simp [hw, hm, hr]
        · rw [if_neg hr]
          have hr' : rightN t.text = false := by simpa using hr
          by_cases hm : t.text ∈ marksL
          · rw [if_pos hm]
            rcases h with h | h | h <;> rw [h] <;> simp [hw, hm, hr']
          · rw [if_neg hm]
            rcases h with h | h | h <;> rw [h] <;> simp [hw, hm, hr']
  · rw [if_pos (by simpa using hn), decide_eq_false hn, Bool.and_false]
end Go.Proofs.YtlenenfgedgmhaaDoor
