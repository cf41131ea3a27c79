/- The plain law of tokens: the longest beginning of a token, which must be one, is what the other reading takes. -/
import Derived.Test.YtlenenfgedgmhaaDoorUnq
import Derived.Test.YtlenenfgedgmhaaDoorName
namespace Go.Proofs.YtlenenfgedgmhaaDoor
set_option linter.unusedSimpArgs false
set_option linter.unusedVariables false

structure Tok where
  kind : Int
  text : List Nat
  num : Int
  place : Int
  deriving DecidableEq

def marksL : List (List Nat) := [[45, 62], [33, 33], [33, 61], [61, 61], [60, 61], [46], [35], [94], [63], [40], [41], [43], [45], [42], [60], [58]]
def wordsL : List (List Nat) := [[97, 110, 100], [97, 110, 121], [99, 111, 110, 99, 101, 112, 116], [101, 108, 115, 101], [101, 110, 100], [101, 118, 101, 114, 121], [102, 97, 108, 115, 101], [102, 105, 114, 115, 116], [105, 100], [105, 102], [105, 110], [105, 110, 116], [110, 111, 110, 101], [110, 111, 116], [111, 110, 108, 121], [111, 114], [115, 101, 108, 102], [115, 105, 122, 101], [115, 117, 109], [116, 101, 120, 116], [116, 104, 101, 110], [116, 114, 117, 101]]

/-- the program's reading of digits: the number, how many bytes, whether that is all -/
def numScan : List Nat → Nat → Nat → Nat × Nat × Bool
  | [], j, n => (n, j, true)
  | c :: r, j, n => if 48 ≤ c ∧ c ≤ 57 then (if (0 < j ∧ n = 0) ∨ (9223372036854775807 - (c - 48)) / 10 < n then (0, j, false) else numScan r (j + 1) (10 * n + (c - 48))) else (n, j, !furtherN c)
def markN (r : List Nat) : List Nat × Nat := match marksL.find? (fun m => m.isPrefixOf r) with
  | some m => (m, m.length)
  | none => if r.head? = some 33 ∨ r.head? = some 61 then ([], 1) else ([], 0)
/-- the program's token at a place that is no blank and no quote: the token, or none, and how many bytes are right -/
def stepP (r : List Nat) : Option (Nat × List Nat × Int) × Nat := match r with
  | [] => (none, 0)
  | c :: t =>
    if 48 ≤ c ∧ c ≤ 57 then (if (numScan (c :: t) 0 0).2.2 then (some (1, [], (numScan (c :: t) 0 0).1), (numScan (c :: t) 0 0).2.1) else (none, (numScan (c :: t) 0 0).2.1))
    else if letterN c then (if ((c :: t).takeWhile furtherN).length ≤ 32 then (some (if (c :: t).takeWhile furtherN ∈ wordsL then 4 else 3, (c :: t).takeWhile furtherN, 0), ((c :: t).takeWhile furtherN).length) else (none, 32))
    else (if (markN (c :: t)).1 = [] then (none, (markN (c :: t)).2) else (some (5, (markN (c :: t)).1, 0), (markN (c :: t)).2))

/-- the chapter's words -/
def isNumber (s : List Nat) : Option Int := match intN s with
  | some v => if 0 ≤ v then some v else none
  | none => none
def beginsN (s : List Nat) : Bool := (isNumber s).isSome || rightN s || marksL.any (fun m => s.isPrefixOf m)
def wholeN (s : List Nat) : Option (Nat × List Nat × Int) := match isNumber s with
  | some v => some (1, [], v)
  | none => if s ∈ wordsL then some (4, s, 0) else if rightN s then some (3, s, 0) else if s ∈ marksL then some (5, s, 0) else none
def lenFrom (r : List Nat) : Nat → Nat → Nat
  | 0, k => k
  | f + 1, k => if k < r.length ∧ beginsN (r.take (k + 1)) = true then lenFrom r f (k + 1) else k
def stepR (r : List Nat) : Option (Nat × List Nat × Int) × Nat :=
  match wholeN (r.take (lenFrom r r.length 0)) with
  | none => (none, lenFrom r r.length 0)
  | some (k, s, v) => if k ≠ 5 ∧ (∃ c, r[lenFrom r r.length 0]? = some c ∧ furtherN c = true) then (none, lenFrom r r.length 0) else (some (k, s, v), lenFrom r r.length 0)

theorem lenFrom_eq {r : List Nat} {n : Nat} (hn : n ≤ r.length) (h1 : ∀ j, j < n → beginsN (r.take (j + 1)) = true) (h2 : n = r.length ∨ beginsN (r.take (n + 1)) = false) : lenFrom r r.length 0 = n := by
  have key : ∀ (f k : Nat), k ≤ n → n ≤ k + f → lenFrom r f k = n := by
    intro f
    induction f with
    | zero => intro k h3 h4; simp only [lenFrom]; omega
    | succ f ih =>
      intro k h3 h4
      simp only [lenFrom]
      by_cases e : k = n
      · subst e
        rw [if_neg]
        rintro ⟨h5, h6⟩
        rcases h2 with h2 | h2
        · omega
        · rw [h2] at h6; cases h6
      · rw [if_pos ⟨by omega, h1 k (by omega)⟩]
        exact ih (k + 1) (by omega) (by omega)
  exact key r.length 0 (Nat.zero_le _) (by omega)

theorem letter_cases {c : Nat} (h : letterN c = true) : (65 ≤ c ∧ c ≤ 90) ∨ (97 ≤ c ∧ c ≤ 122) := by simpa [letterN] using h
theorem no_mark_letter {c : Nat} (h : letterN c = true) (t : List Nat) : marksL.any (fun m => (c :: t).isPrefixOf m) = false := by
  have := letter_cases h
  simp only [marksL, List.any_cons, List.any_nil, List.isPrefixOf, Bool.or_false]
  simp
  omega
theorem no_mark_digit {c : Nat} (h : 48 ≤ c ∧ c ≤ 57) (t : List Nat) : marksL.any (fun m => (c :: t).isPrefixOf m) = false := by
  simp only [marksL, List.any_cons, List.any_nil, List.isPrefixOf, Bool.or_false]
  simp
  omega
theorem no_number_letter {c : Nat} (h : letterN c = true) (t : List Nat) : isNumber (c :: t) = none := by
  have hl := letter_cases h
  unfold isNumber
  cases hi : intN (c :: t) with
  | none => rfl
  | some v =>
    exfalso
    unfold intN at hi
    rw [if_neg (by simp; omega)] at hi
    split at hi
    · cases hi
    · split at hi
      · rename_i hd
        have := hd c (by simp)
        omega
      · cases hi
theorem no_right_digit {c : Nat} (h : 48 ≤ c ∧ c ≤ 57) (t : List Nat) : rightN (c :: t) = false := by
  have : letterN c = false := by simp [letterN]; omega
  simp [rightN, this]
theorem begins_letter {c : Nat} (h : letterN c = true) (t : List Nat) : beginsN (c :: t) = rightN (c :: t) := by
  simp [beginsN, no_number_letter h, no_mark_letter h]
theorem begins_digit {c : Nat} (h : 48 ≤ c ∧ c ≤ 57) (t : List Nat) : beginsN (c :: t) = (isNumber (c :: t)).isSome := by
  simp [beginsN, no_right_digit h, no_mark_digit h]
theorem takeWhile_all {p : Nat → Bool} : ∀ (l : List Nat), (l.takeWhile p).all p = true
  | [] => rfl
  | a :: l => by
    by_cases h : p a = true
    · rw [List.takeWhile_cons, if_pos h, List.all_cons, h, takeWhile_all l]; rfl
    · rw [List.takeWhile_cons, if_neg h]; rfl
theorem takeWhile_next {p : Nat → Bool} : ∀ (l : List Nat) (c : Nat), l[(l.takeWhile p).length]? = some c → p c = false
  | [], c, h => by simp at h
  | a :: l, c, h => by
    by_cases hp : p a = true
    · rw [List.takeWhile_cons, if_pos hp] at h
      simp only [List.length_cons, List.getElem?_cons_succ] at h
      exact takeWhile_next l c h
    · rw [List.takeWhile_cons, if_neg hp] at h
      simp at h
      subst h
      simpa using hp
theorem take_of_takeWhile {p : Nat → Bool} : ∀ (l : List Nat), l.take (l.takeWhile p).length = l.takeWhile p
  | [] => rfl
  | a :: l => by
    by_cases hp : p a = true
    · rw [List.takeWhile_cons, if_pos hp, List.length_cons, List.take_succ_cons, take_of_takeWhile l]
    · rw [List.takeWhile_cons, if_neg hp]; rfl
theorem takeWhile_le {p : Nat → Bool} : ∀ (l : List Nat), (l.takeWhile p).length ≤ l.length
  | [] => Nat.le_refl _
  | a :: l => by
    by_cases hp : p a = true
    · rw [List.takeWhile_cons, if_pos hp, List.length_cons, List.length_cons]; have := takeWhile_le (p := p) l; omega
    · rw [List.takeWhile_cons, if_neg hp]; simp
theorem step_letter {c : Nat} (h : letterN c = true) (t : List Nat) : stepR (c :: t) = stepP (c :: t) := by
  have hl := letter_cases h
  have hf : furtherN c = true := by simp [furtherN, h]
  obtain ⟨run, hrun⟩ : ∃ run, (c :: t).takeWhile furtherN = run := ⟨_, rfl⟩
  have hall : run.all furtherN = true := by rw [← hrun]; exact takeWhile_all _
  have hle : run.length ≤ (c :: t).length := by rw [← hrun]; exact takeWhile_le _
  have htk : (c :: t).take run.length = run := by rw [← hrun]; exact take_of_takeWhile _
  have hrc : ∃ u, run = c :: u := ⟨t.takeWhile furtherN, by rw [← hrun, List.takeWhile_cons, if_pos hf]⟩
  obtain ⟨u, hu⟩ := hrc
  have hbeg : ∀ j, j < run.length → j < 32 → beginsN ((c :: t).take (j + 1)) = true := by
    intro j h1 h2
    have e : (c :: t).take (j + 1) = run.take (j + 1) := by rw [← htk, List.take_take, Nat.min_eq_left (by omega)]
    rw [List.take_succ_cons, begins_letter h]
    rw [← List.take_succ_cons, e, hu, List.take_succ_cons]
    simp only [rightN, Bool.and_eq_true, decide_eq_true_eq, List.length_cons]
    refine ⟨⟨by rw [List.length_take]; omega, h⟩, ?_⟩
    rw [hu, List.all_cons, Bool.and_eq_true] at hall
    rw [List.all_cons, hf, Bool.true_and, List.all_eq_true]
    rw [List.all_eq_true] at hall
    exact fun x hx => hall.2 x (List.mem_of_mem_take hx)
  have hP : stepP (c :: t) = (if run.length ≤ 32 then (some (if run ∈ wordsL then 4 else 3, run, 0), run.length) else (none, 32)) := by
    simp only [stepP]
    rw [if_neg (by omega), if_pos h, hrun]
  rw [hP]
  by_cases h32 : run.length ≤ 32
  · rw [if_pos h32]
    have hn : lenFrom (c :: t) (c :: t).length 0 = run.length := by
      refine lenFrom_eq hle (fun j hj => hbeg j hj (by omega)) ?_
      by_cases e : run.length = (c :: t).length
      · exact Or.inl e
      · right
        obtain ⟨d, hd⟩ : ∃ d, (c :: t)[run.length]? = some d := ⟨_, List.getElem?_eq_getElem (by omega)⟩
        have hnf : furtherN d = false := takeWhile_next (p := furtherN) (c :: t) d (by rw [hrun]; exact hd)
        have hk := (List.getElem?_eq_some_iff.1 hd).1
        have e2 : (c :: t).take (run.length + 1) = run ++ [d] := by
          rw [List.take_succ_eq_append_getElem hk, (List.getElem?_eq_some_iff.1 hd).2, htk]
        rw [e2, hu, List.cons_append, begins_letter h]
        simp only [rightN, List.all_cons, List.all_append, List.all_nil, hnf]
        simp
    have hright : rightN run = true := by
      rw [hu]
      rw [hu] at hall h32
      simp only [rightN, Bool.and_eq_true, decide_eq_true_eq]
      exact ⟨⟨h32, h⟩, hall⟩
    have hw : wholeN run = some (if run ∈ wordsL then 4 else 3, run, 0) := by
      unfold wholeN
      rw [hu, no_number_letter h]
      simp only
      by_cases hm : c :: u ∈ wordsL
      · rw [if_pos hm, if_pos hm]
      · rw [if_neg hm, if_neg hm, ← hu, if_pos hright]
    unfold stepR
    rw [hn, htk, hw]
    simp only
    rw [if_neg]
    rintro ⟨_, d, hd, hfd⟩
    have := takeWhile_next (p := furtherN) (c :: t) d (by rw [hrun]; exact hd)
    rw [hfd] at this
    cases this
  · rw [if_neg h32]
    have hn : lenFrom (c :: t) (c :: t).length 0 = 32 := by
      refine lenFrom_eq (by omega) (fun j hj => hbeg j (by omega) hj) (Or.inr ?_)
      rw [List.take_succ_cons, begins_letter h]
      have : ((c :: t).take (32 + 1)).length = 33 := by rw [List.length_take]; omega
      rw [List.take_succ_cons] at this
      simp only [rightN]
      rw [this]
      rfl
    obtain ⟨d, hd⟩ : ∃ d, (c :: t)[32]? = some d := ⟨_, List.getElem?_eq_getElem (by omega)⟩
    have hfd : furtherN d = true := by
      have hd' : run[32]? = some d := by
        rw [← htk, List.getElem?_take_of_lt (by omega)]; exact hd
      exact List.all_eq_true.1 hall d (List.mem_iff_getElem?.2 ⟨32, hd'⟩)
    unfold stepR
    rw [hn]
    have hw : ∃ k s v, wholeN ((c :: t).take 32) = some (k, s, v) ∧ k ≠ 5 := by
      have hr : rightN ((c :: t).take 32) = true := by
        have := hbeg 31 (by omega) (by omega)
        rw [List.take_succ_cons, begins_letter h] at this
        exact this
      unfold wholeN
      rw [List.take_succ_cons, no_number_letter h]
      simp only
      by_cases hm : c :: t.take 31 ∈ wordsL
      · exact ⟨4, _, 0, if_pos hm, by omega⟩
      · rw [if_neg hm]
        rw [List.take_succ_cons] at hr
        exact ⟨3, _, 0, if_pos hr, by omega⟩
    obtain ⟨k, s, v, hw, hk⟩ := hw
    rw [hw]
    simp only
    rw [if_pos ⟨hk, d, hd, hfd⟩]
end Go.Proofs.YtlenenfgedgmhaaDoor
