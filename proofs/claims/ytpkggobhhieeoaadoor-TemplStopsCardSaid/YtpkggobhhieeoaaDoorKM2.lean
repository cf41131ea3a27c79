/- - - - - - -/
import Derived.Test.YtpkggobhhieeoaaDoorKM1
set_option maxRecDepth 100000
set_option maxHeartbeats 32000000
set_option linter.unusedSimpArgs false
set_option linter.unusedVariables false
namespace Go.Proofs.YtpkggobhhieeoaaDoor
structure Tok where
  kind : Int
  text : List Nat
  num : Int
  place : Int
  deriving DecidableEq
def marksL : List (List Nat) := [[45, 62], [33, 33], [33, 61], [61, 61], [60, 61], [46], [35], [94], [63], [40], [41], [43], [45], [42], [60], [58]]
def wordsL : List (List Nat) := [[97, 110, 100], [97, 110, 121], [99, 111, 110, 99, 101, 112, 116], [101, 108, 115, 101], [101, 110, 100], [101, 118, 101, 114, 121], [102, 97, 108, 115, 101], [102, 105, 114, 115, 116], [105, 100], [105, 102], [105, 110], [105, 110, 116], [110, 111, 110, 101], [110, 111, 116], [111, 110, 108, 121], [111, 114], [115, 101, 108, 102], [115, 105, 122, 101], [115, 117, 109], [116, 101, 120, 116], [116, 104, 101, 110], [116, 114, 117, 101]]
def numScan : List Nat → Nat → Nat → Nat × Nat × Bool
  | [], j, n => (n, j, true)
  | c :: r, j, n => if 48 ≤ c ∧ c ≤ 57 then (if (0 < j ∧ n = 0) ∨ (9223372036854775807 - (c - 48)) / 10 < n then (0, j, false) else numScan r (j + 1) (10 * n + (c - 48))) else (n, j, !furtherN c)
def markN (r : List Nat) : List Nat × Nat := match marksL.find? (fun m => m.isPrefixOf r) with
  | some m => (m, m.length)
  | none => if r.head? = some 33 ∨ r.head? = some 61 then ([], 1) else ([], 0)
def stepP (r : List Nat) : Option (Nat × List Nat × Int) × Nat := match r with
  | [] => (none, 0)
  | c :: t =>
    if 48 ≤ c ∧ c ≤ 57 then (if (numScan (c :: t) 0 0).2.2 then (some (1, [], (numScan (c :: t) 0 0).1), (numScan (c :: t) 0 0).2.1) else (none, (numScan (c :: t) 0 0).2.1))
    else if letterN c then (if ((c :: t).takeWhile furtherN).length ≤ 32 then (some (if (c :: t).takeWhile furtherN ∈ wordsL then 4 else 3, (c :: t).takeWhile furtherN, 0), ((c :: t).takeWhile furtherN).length) else (none, 32))
    else (if (markN (c :: t)).1 = [] then (none, (markN (c :: t)).2) else (some (5, (markN (c :: t)).1, 0), (markN (c :: t)).2))
def isNumber (s : List Nat) : Option Int := match intN s with
  | some v => if 0 ≤ v then some v else none
  | none => none
def beginsN (s : List Nat) : Bool := (isNumber s).isSome || rightN s || marksL.any (fun m => s.isPrefixOf m)
def wholeN (s : List Nat) : Option (Nat × List Nat × Int) := match isNumber s with
  | some v => some (1, [], v)
  | none => if s ∈ wordsL then some (4, s, 0) else if rightN s then some (3, s, 0) else if s ∈ marksL then some (5, s, 0) else none
def lenFrom (r : List Nat) : Nat → Nat → Nat
  | 0, k => k
  | f + 1, k => if k < r.length ∧ beginsN (r.take (k + 1)) = true then lenFrom r f (k + 1) else k
def stepR (r : List Nat) : Option (Nat × List Nat × Int) × Nat :=
  match wholeN (r.take (lenFrom r r.length 0)) with
  | none => (none, lenFrom r r.length 0)
  | some (k, s, v) => if k ≠ 5 ∧ (∃ c, r[lenFrom r r.length 0]? = some c ∧ furtherN c = true) then (none, lenFrom r r.length 0) else (some (k, s, v), lenFrom r r.length 0)
theorem lenFrom_eq {r : List Nat} {n : Nat} (hn : n ≤ r.length) (h1 : ∀ j, j < n → beginsN (r.take (j + 1)) = true) (h2 : n = r.length ∨ beginsN (r.take (n + 1)) = false) : lenFrom r r.length 0 = n := by
  have key : ∀ (f k : Nat), k ≤ n → n ≤ k + f → lenFrom r f k = n := by
    intro f
    induction f with
    | zero => intro k h3 h4; simp only [lenFrom]; omega
    | succ f ih =>
      intro k h3 h4
      simp only [lenFrom]
      by_cases e : k = n
      · subst e
        rw [if_neg]
        rintro ⟨h5, h6⟩
        rcases h2 with h2 | h2
        · omega
        · rw [h2] at h6; cases h6
      · rw [if_pos ⟨by omega, h1 k (by omega)⟩]
        exact ih (k + 1) (by omega) (by omega)
  exact key r.length 0 (Nat.zero_le _) (by omega)
theorem letter_cases {c : Nat} (h : letterN c = true) : (65 ≤ c ∧ c ≤ 90) ∨ (97 ≤ c ∧ c ≤ 122) := by simpa [letterN] using h
theorem no_mark_letter {c : Nat} (h : letterN c = true) (t : List Nat) : marksL.any (fun m => (c :: t).isPrefixOf m) = false := by
  have := letter_cases h
  simp only [marksL, List.any_cons, List.any_nil, List.isPrefixOf, Bool.or_false]
  simp
  omega
theorem no_mark_digit {c : Nat} (h : 48 ≤ c ∧ c ≤ 57) (t : List Nat) : marksL.any (fun m => (c :: t).isPrefixOf m) = false := by
  simp only [marksL, List.any_cons, List.any_nil, List.isPrefixOf, Bool.or_false]
  simp
  omega
theorem no_number_letter {c : Nat} (h : letterN c = true) (t : List Nat) : isNumber (c :: t) = none := by
  have hl := letter_cases h
  unfold isNumber
  cases hi : intN (c :: t) with
  | none => rfl
  | some v =>
    exfalso
    unfold intN at hi
    rw [if_neg (by simp; omega)] at hi
    split at hi
    · cases hi
    · split at hi
      · rename_i hd
        have := hd c (by simp)
        omega
      · cases hi
theorem no_right_digit {c : Nat} (h : 48 ≤ c ∧ c ≤ 57) (t : List Nat) : rightN (c :: t) = false := by
  have : letterN c = false := by simp [letterN]; omega
  simp [rightN, this]
theorem begins_letter {c : Nat} (h : letterN c = true) (t : List Nat) : beginsN (c :: t) = rightN (c :: t) := by
  simp [beginsN, no_number_letter h, no_mark_letter h]
theorem begins_digit {c : Nat} (h : 48 ≤ c ∧ c ≤ 57) (t : List Nat) : beginsN (c :: t) = (isNumber (c :: t)).isSome := by
  simp [beginsN, no_right_digit h, no_mark_digit h]
theorem takeWhile_all {p : Nat → Bool} : ∀ (l : List Nat), (l.takeWhile p).all p = true
  | [] => rfl
  | a :: l => by
    by_cases h : p a = true
    · rw [List.takeWhile_cons, if_pos h, List.all_cons, h, takeWhile_all l]; rfl
    · rw [List.takeWhile_cons, if_neg h]; rfl
theorem takeWhile_next {p : Nat → Bool} : ∀ (l : List Nat) (c : Nat), l[(l.takeWhile p).length]? = some c → p c = false
  | [], c, h => by simp at h
  | a :: l, c, h => by
    by_cases hp : p a = true
    · rw [List.takeWhile_cons, if_pos hp] at h
      simp only [List.length_cons, List.getElem?_cons_succ] at h
      exact takeWhile_next l c h
    · rw [List.takeWhile_cons, if_neg hp] at h
      simp at h
      subst h
      simpa using hp
theorem take_of_takeWhile {p : Nat → Bool} : ∀ (l : List Nat), l.take (l.takeWhile p).length = l.takeWhile p
  | [] => rfl
  | a :: l => by
    by_cases hp : p a = true
    · rw [List.takeWhile_cons, if_pos hp, List.length_cons, List.take_succ_cons, take_of_takeWhile l]
    · rw [List.takeWhile_cons, if_neg hp]; rfl
theorem takeWhile_le {p : Nat → Bool} : ∀ (l : List Nat), (l.takeWhile p).length ≤ l.length
  | [] => Nat.le_refl _
  | a :: l => by
    by_cases hp : p a = true
    · rw [List.takeWhile_cons, if_pos hp, List.length_cons, List.length_cons]; have := takeWhile_le (p := p) l; omega
    · rw [List.takeWhile_cons, if_neg hp]; simp
theorem step_letter {c : Nat} (h : letterN c = true) (t : List Nat) : stepR (c :: t) = stepP (c :: t) := by
  have hl := letter_cases h
  have hf : furtherN c = true := by simp [furtherN, h]
  obtain ⟨run, hrun⟩ : ∃ run, (c :: t).takeWhile furtherN = run := ⟨_, rfl⟩
  have hall : run.all furtherN = true := by rw [← hrun]; exact takeWhile_all _
  have hle : run.length ≤ (c :: t).length := by rw [← hrun]; exact takeWhile_le _
  have htk : (c :: t).take run.length = run := by rw [← hrun]; exact take_of_takeWhile _
  have hrc : ∃ u, run = c :: u := ⟨t.takeWhile furtherN, by rw [← hrun, List.takeWhile_cons, if_pos hf]⟩
  obtain ⟨u, hu⟩ := hrc
  have hbeg : ∀ j, j < run.length → j < 32 → beginsN ((c :: t).take (j + 1)) = true := by
    intro j h1 h2
    have e : (c :: t).take (j + 1) = run.take (j + 1) := by rw [← htk, List.take_take, Nat.min_eq_left (by omega)]
    rw [List.take_succ_cons, begins_letter h]
    rw [← List.take_succ_cons, e, hu, List.take_succ_cons]
    simp only [rightN, Bool.and_eq_true, decide_eq_true_eq, List.length_cons]
    refine ⟨⟨by rw [List.length_take]; omega, h⟩, ?_⟩
    rw [hu, List.all_cons, Bool.and_eq_true] at hall
    rw [List.all_cons, hf, Bool.true_and, List.all_eq_true]
    rw [List.all_eq_true] at hall
    exact fun x hx => hall.2 x (List.mem_of_mem_take hx)
  have hP : stepP (c :: t) = (if run.length ≤ 32 then (some (if run ∈ wordsL then 4 else 3, run, 0), run.length) else (none, 32)) := by
    simp only [stepP]
    rw [if_neg (by omega), if_pos h, hrun]
  rw [hP]
  by_cases h32 : run.length ≤ 32
  · rw [if_pos h32]
    have hn : lenFrom (c :: t) (c :: t).length 0 = run.length := by
      refine lenFrom_eq hle (fun j hj => hbeg j hj (by omega)) ?_
      by_cases e : run.length = (c :: t).length
      · exact Or.inl e
      · right
        obtain ⟨d, hd⟩ : ∃ d, (c :: t)[run.length]? = some d := ⟨_, List.getElem?_eq_getElem (by omega)⟩
        have hnf : furtherN d = false := takeWhile_next (p := furtherN) (c :: t) d (by rw [hrun]; exact hd)
        have hk := (List.getElem?_eq_some_iff.1 hd).1
        have e2 : (c :: t).take (run.length + 1) = run ++ [d] := by
          rw [List.take_succ_eq_append_getElem hk, (List.getElem?_eq_some_iff.1 hd).2, htk]
        rw [e2, hu, List.cons_append, begins_letter h]
        simp only [rightN, List.all_cons, List.all_append, List.all_nil, hnf]
        simp
    have hright : rightN run = true := by
      rw [hu]
      rw [hu] at hall h32
      simp only [rightN, Bool.and_eq_true, decide_eq_true_eq]
      exact ⟨⟨h32, h⟩, hall⟩
    have hw : wholeN run = some (if run ∈ wordsL then 4 else 3, run, 0) := by
      unfold wholeN
      rw [hu, no_number_letter h]
      simp only
      by_cases hm : c :: u ∈ wordsL
      · rw [if_pos hm, if_pos hm]
      · rw [if_neg hm, if_neg hm, ← hu, if_pos hright]
    unfold stepR
    rw [hn, htk, hw]
    simp only
    rw [if_neg]
    rintro ⟨_, d, hd, hfd⟩
    have := takeWhile_next (p := furtherN) (c :: t) d (by rw [hrun]; exact hd)
    rw [hfd] at this
    cases this
  · rw [if_neg h32]
    have hn : lenFrom (c :: t) (c :: t).length 0 = 32 := by
      refine lenFrom_eq (by omega) (fun j hj => hbeg j (by omega) hj) (Or.inr ?_)
      rw [List.take_succ_cons, begins_letter h]
      have : ((c :: t).take (32 + 1)).length = 33 := by rw [List.length_take]; omega
      rw [List.take_succ_cons] at this
      simp only [rightN]
      rw [this]
      rfl
    obtain ⟨d, hd⟩ : ∃ d, (c :: t)[32]? = some d := ⟨_, List.getElem?_eq_getElem (by omega)⟩
    have hfd : furtherN d = true := by
      have hd' : run[32]? = some d := by
        rw [← htk, List.getElem?_take_of_lt (by omega)]; exact hd
      exact List.all_eq_true.1 hall d (List.mem_iff_getElem?.2 ⟨32, hd'⟩)
    unfold stepR
    rw [hn]
    have hw : ∃ k s v, wholeN ((c :: t).take 32) = some (k, s, v) ∧ k ≠ 5 := by
      have hr : rightN ((c :: t).take 32) = true := by
        have := hbeg 31 (by omega) (by omega)
        rw [List.take_succ_cons, begins_letter h] at this
        exact this
      unfold wholeN
      rw [List.take_succ_cons, no_number_letter h]
      simp only
      by_cases hm : c :: t.take 31 ∈ wordsL
      · exact ⟨4, _, 0, if_pos hm, by omega⟩
      · rw [if_neg hm]
        rw [List.take_succ_cons] at hr
        exact ⟨3, _, 0, if_pos hr, by omega⟩
    obtain ⟨k, s, v, hw, hk⟩ := hw
    rw [hw]
    simp only
    rw [if_pos ⟨hk, d, hd, hfd⟩]
end Go.Proofs.YtpkggobhhieeoaaDoor
namespace Go.Proofs.YtpkggobhhieeoaaDoor
def okNum (l : List Nat) : Prop := Digits l ∧ l ≠ [] ∧ (l.head? ≠ some 48 ∨ l.length = 1) ∧ val 0 l ≤ 9223372036854775807
instance (l : List Nat) : Decidable (okNum l) := inferInstanceAs (Decidable (_ ∧ _))
theorem isNumber_ok {l : List Nat} (h : okNum l) : isNumber l = some (val 0 l : Int) := by
  obtain ⟨h1, h2, h3, h4⟩ := h
  have hd := dec_val _ l rfl h2 h1 h3
  have hi := intN_show (v := (val 0 l : Int)) (by omega) (by omega)
  have hs : showN (val 0 l : Int) = l := by unfold showN; rw [if_neg (by omega), Int.toNat_natCast, hd]
  rw [hs] at hi
  unfold isNumber
  rw [hi]
  exact if_pos (by omega)
theorem ok_isNumber {l : List Nat} {v : Int} (h : isNumber l = some v) : okNum l := by
  unfold isNumber at h
  cases hi : intN l with
  | none => rw [hi] at h; cases h
  | some u =>
    rw [hi] at h
    simp only at h
    split at h
    · rename_i h0
      obtain ⟨_, h1, hs, _⟩ := intN_some hi
      have hl : dec u.toNat = l := by rw [← hs]; unfold showN; rw [if_neg (by omega)]
      refine ⟨hl ▸ dec_digits _, hl ▸ dec_ne _, ?_, ?_⟩
      · by_cases e : u.toNat = 0
        · right; rw [← hl, e, dec_small (by omega)]; rfl
        · left; rw [← hl]; exact dec_head _ e
      · rw [← hl, val_dec]; omega
    · cases h
theorem isNumber_iff (l : List Nat) : (isNumber l).isSome = decide (okNum l) := by
  by_cases h : okNum l
  · rw [isNumber_ok h]; simp [h]
  · cases hi : isNumber l with
    | none => simp [h]
    | some v => exact absurd (ok_isNumber hi) h
theorem val_snoc (p : List Nat) (c : Nat) : val 0 (p ++ [c]) = 10 * val 0 p + (c - 48) := by rw [val_app]; rfl
theorem numScan_spec : ∀ (r p : List Nat), (p = [] ∨ okNum p) → ∃ m, m ≤ r.length ∧ (∀ i, i < m → okNum (p ++ r.take (i + 1))) ∧ (m = r.length ∨ ¬ okNum (p ++ r.take (m + 1))) ∧ (numScan r p.length (val 0 p)).2.1 = p.length + m ∧ ((∃ c, r[m]? = some c ∧ furtherN c = true) → (numScan r p.length (val 0 p)).2.2 = false) ∧ ((¬ ∃ c, r[m]? = some c ∧ furtherN c = true) → (numScan r p.length (val 0 p)).2.2 = true ∧ (numScan r p.length (val 0 p)).1 = val 0 (p ++ r.take m))
  | [], p, hp => ⟨0, by simp, fun i hi => by omega, Or.inl rfl, rfl, fun ⟨c, h, _⟩ => by simp at h, fun _ => ⟨rfl, by simp [numScan]⟩⟩
  | c :: r, p, hp => by
    by_cases hd : 48 ≤ c ∧ c ≤ 57
    · by_cases hb : (0 < p.length ∧ val 0 p = 0) ∨ (9223372036854775807 - (c - 48)) / 10 < val 0 p
      · have hn : numScan (c :: r) p.length (val 0 p) = (0, p.length, false) := by simp only [numScan]; rw [if_pos hd, if_pos hb]
        have hf : furtherN c = true := by simp [furtherN]; omega
        refine ⟨0, by simp, fun i hi => by omega, Or.inr ?_, by rw [hn]; rfl, fun _ => by rw [hn], fun h => absurd ⟨c, rfl, hf⟩ h⟩
        rintro ⟨g1, g2, g3, g4⟩
        simp only [Nat.zero_add, List.take_succ_cons, List.take_zero] at g1 g2 g3 g4
        rw [val_snoc] at g4
        rcases hb with ⟨b1, b2⟩ | hb
        · rcases hp with rfl | hp
          · simp at b1
          · have hdv := dec_val _ p rfl hp.2.1 hp.1 hp.2.2.1
            rw [b2, dec_small (by omega)] at hdv
            rw [← hdv] at g3
            simp at g3
        · omega
      · have hn : numScan (c :: r) p.length (val 0 p) = numScan r (p ++ [c]).length (val 0 (p ++ [c])) := by
          rw [numScan, if_pos hd, if_neg hb, val_snoc, List.length_append]; rfl
        have hok : okNum (p ++ [c]) := by
          refine ⟨?_, by simp, ?_, by rw [val_snoc]; omega⟩
          · intro x hx
            rcases List.mem_append.1 hx with hx | hx
            · rcases hp with rfl | hp
              · simp at hx
              · exact hp.1 x hx
            · simp at hx; omega
          · rcases hp with rfl | hp
            · right; rfl
            · left
              cases p with
              | nil => exact absurd rfl hp.2.1
              | cons a p =>
                rw [List.cons_append, List.head?_cons]
                intro e
                injection e with e
                subst e
                rcases hp.2.2.1 with h | h
                · simp at h
                · have : p = [] := by simpa using h
                  subst this
                  exact hb (Or.inl ⟨by simp, rfl⟩)
        obtain ⟨m, k1, k2, k3, k4, k5, k6⟩ := numScan_spec r (p ++ [c]) (Or.inr hok)
        have e : ∀ i, p ++ (c :: r).take (i + 1) = (p ++ [c]) ++ r.take i := fun i => by rw [List.take_succ_cons, List.append_assoc]; rfl
        rw [hn]
        refine ⟨m + 1, by simp; exact k1, fun i hi => ?_, ?_, by rw [k4, List.length_append]; simp; omega, fun h => k5 (by simpa using h), fun h => ?_⟩
        · rw [e]
          rcases i with _ | i
          · simpa using hok
          · exact k2 i (by omega)
        · rw [e]
          rcases k3 with k3 | k3
          · left; rw [List.length_cons, k3]
          · exact Or.inr k3
        · rw [e]
          exact k6 (by simpa using h)
    · have hn : numScan (c :: r) p.length (val 0 p) = (val 0 p, p.length, !furtherN c) := by simp only [numScan]; rw [if_neg hd]
      rw [hn]
      refine ⟨0, by simp, fun i hi => by omega, Or.inr ?_, rfl, ?_, ?_⟩
      · rintro ⟨g1, _⟩
        have := g1 c (by simp)
        omega
      · rintro ⟨d, h, hf⟩
        simp at h
        subst h
        simp [hf]
      · intro h
        refine ⟨?_, by simp⟩
        cases hf : furtherN c with
        | false => rfl
        | true => exact absurd ⟨c, rfl, hf⟩ h
theorem step_digit {c : Nat} (h : 48 ≤ c ∧ c ≤ 57) (t : List Nat) : stepR (c :: t) = stepP (c :: t) := by
  obtain ⟨m, h1, h2, h3, h4, h5, h6⟩ := numScan_spec (c :: t) [] (Or.inl rfl)
  have hv : val 0 [] = 0 := rfl
  simp only [List.nil_append, List.length_nil, Nat.zero_add, hv] at h2 h3 h4 h5 h6
  have hb : ∀ j, beginsN ((c :: t).take (j + 1)) = decide (okNum ((c :: t).take (j + 1))) := fun j => by
    rw [List.take_succ_cons, begins_digit h, isNumber_iff]
  have hok1 : okNum [c] := ⟨fun x hx => by simp at hx; omega, by simp, Or.inr rfl, by simp [val]; omega⟩
  have hm : m ≠ 0 := by
    rintro rfl
    rcases h3 with h3 | h3
    · simp at h3
    · exact h3 hok1
  have hn : lenFrom (c :: t) (c :: t).length 0 = m := by
    refine lenFrom_eq h1 (fun j hj => by rw [hb]; exact decide_eq_true (h2 j hj)) ?_
    rcases h3 with h3 | h3
    · exact Or.inl h3
    · right; rw [hb]; exact decide_eq_false h3
  have hw : wholeN ((c :: t).take m) = some (1, [], (val 0 ((c :: t).take m) : Int)) := by
    obtain ⟨j, rfl⟩ : ∃ j, m = j + 1 := ⟨m - 1, by omega⟩
    unfold wholeN
    rw [isNumber_ok (h2 j (by omega))]
  unfold stepR
  rw [hn, hw]
  simp only [stepP]
  rw [if_pos h, h4]
  by_cases hx : ∃ d, (c :: t)[m]? = some d ∧ furtherN d = true
  · rw [if_pos ⟨by decide, hx⟩, h5 hx]; rfl
  · rw [if_neg (fun h => hx h.2), (h6 hx).1, (h6 hx).2]; rfl
theorem no_number {c : Nat} (h : ¬ (48 ≤ c ∧ c ≤ 57)) (t : List Nat) : isNumber (c :: t) = none := by
  cases hi : isNumber (c :: t) with
  | none => rfl
  | some v => exact absurd ((ok_isNumber hi).1 c (by simp)) h
theorem words_letter : wordsL.all (fun m => match m with | [] => false | a :: _ => letterN a) = true := by decide
theorem no_word {c : Nat} (h : letterN c = false) (t : List Nat) : c :: t ∉ wordsL := by
  intro hm
  have := List.all_eq_true.1 words_letter _ hm
  simp only at this
  rw [h] at this
  cases this
theorem begins_mark {c : Nat} (h1 : ¬ (48 ≤ c ∧ c ≤ 57)) (h2 : letterN c = false) (t : List Nat) : beginsN (c :: t) = marksL.any (fun m => (c :: t).isPrefixOf m) := by
  simp [beginsN, no_number h1, rightN, h2]
theorem whole_mark {c : Nat} (h1 : ¬ (48 ≤ c ∧ c ≤ 57)) (h2 : letterN c = false) (t : List Nat) : wholeN (c :: t) = if c :: t ∈ marksL then some (5, c :: t, 0) else none := by
  unfold wholeN
  rw [no_number h1]
  simp only
  rw [if_neg (no_word h2 t), if_neg (by simp [rightN, h2])]
theorem stepR_mark {r s : List Nat} {n : Nat} (hn : lenFrom r r.length 0 = n) (hw : wholeN (r.take n) = some (5, s, 0)) : stepR r = (some (5, s, 0), n) := by
  unfold stepR
  rw [hn, hw]
  simp only
  rw [if_neg (fun h => h.1 rfl)]
theorem stepR_none {r : List Nat} {n : Nat} (hn : lenFrom r r.length 0 = n) (hw : wholeN (r.take n) = none) : stepR r = (none, n) := by
  unfold stepR
  rw [hn, hw]
theorem whole_nil : wholeN [] = none := by decide
def firstsL : List Nat := [45, 33, 61, 60, 46, 35, 94, 63, 40, 41, 43, 42, 58]
theorem begins_one (c : Nat) : marksL.any (fun m => [c].isPrefixOf m) = decide (c ∈ firstsL) := by
  simp [marksL, firstsL, List.isPrefixOf]
  grind
theorem begins_two (c d : Nat) : marksL.any (fun m => [c, d].isPrefixOf m) = decide ((c = 45 ∧ d = 62) ∨ (c = 33 ∧ d = 33) ∨ (c = 33 ∧ d = 61) ∨ (c = 61 ∧ d = 61) ∨ (c = 60 ∧ d = 61)) := by
  simp [marksL, List.isPrefixOf]
  grind
theorem begins_three (c d e : Nat) (t : List Nat) : marksL.any (fun m => (c :: d :: e :: t).isPrefixOf m) = false := by
  simp [marksL, List.isPrefixOf]
theorem step_mark {c : Nat} (h1 : ¬ (48 ≤ c ∧ c ≤ 57)) (h2 : letterN c = false) (t : List Nat) : stepR (c :: t) = stepP (c :: t) := by
  have hb := begins_mark h1 h2
  have hw := whole_mark h1 h2
  have hP : stepP (c :: t) = (if (markN (c :: t)).1 = [] then (none, (markN (c :: t)).2) else (some (5, (markN (c :: t)).1, 0), (markN (c :: t)).2)) := by
    simp only [stepP]
    rw [if_neg h1, if_neg (by rw [h2]; simp)]
  rw [hP]
  by_cases hc : c ∈ firstsL
  · match t with
    | [] =>
      have hn : lenFrom [c] [c].length 0 = 1 := by
        refine lenFrom_eq (by simp) (fun j hj => ?_) (Or.inl rfl)
        obtain rfl : j = 0 := by omega
        show beginsN [c] = true
        rw [hb, begins_one]; exact decide_eq_true hc
      by_cases hm : [c] ∈ marksL
      · rw [stepR_mark hn (by show wholeN [c] = _; rw [hw, if_pos hm])]
        clear hn hP hw hb h2 h1
        simp only [firstsL, List.mem_cons, List.not_mem_nil, or_false] at hc
        rcases hc with rfl | rfl | rfl | rfl | rfl | rfl | rfl | rfl | rfl | rfl | rfl | rfl | rfl <;> first | rfl | (exact absurd hm (by decide))
      · rw [stepR_none hn (by show wholeN [c] = _; rw [hw, if_neg hm])]
        clear hn hP hw hb h2 h1
        simp only [firstsL, List.mem_cons, List.not_mem_nil, or_false] at hc
        rcases hc with rfl | rfl | rfl | rfl | rfl | rfl | rfl | rfl | rfl | rfl | rfl | rfl | rfl <;> first | rfl | (exact absurd (by decide) hm)
    | d :: u =>
      by_cases hd : (c = 45 ∧ d = 62) ∨ (c = 33 ∧ d = 33) ∨ (c = 33 ∧ d = 61) ∨ (c = 61 ∧ d = 61) ∨ (c = 60 ∧ d = 61)
      · have hn : lenFrom (c :: d :: u) (c :: d :: u).length 0 = 2 := by
          refine lenFrom_eq (by simp) (fun j hj => ?_) ?_
          · rcases j with _ | _ | j
            · show beginsN [c] = true
              rw [hb, begins_one]; exact decide_eq_true hc
            · show beginsN [c, d] = true
              rw [hb, begins_two]; exact decide_eq_true hd
            · omega
          · match u with
            | [] => exact Or.inl rfl
            | e :: u => right; show beginsN [c, d, e] = false; rw [hb, begins_three]
        have hm : [c, d] ∈ marksL := by rcases hd with ⟨rfl, rfl⟩ | ⟨rfl, rfl⟩ | ⟨rfl, rfl⟩ | ⟨rfl, rfl⟩ | ⟨rfl, rfl⟩ <;> decide
        rw [stepR_mark hn (by show wholeN [c, d] = _; rw [hw, if_pos hm])]
        rcases hd with ⟨rfl, rfl⟩ | ⟨rfl, rfl⟩ | ⟨rfl, rfl⟩ | ⟨rfl, rfl⟩ | ⟨rfl, rfl⟩ <;> simp [markN, marksL, List.find?, List.isPrefixOf]
      · have hn : lenFrom (c :: d :: u) (c :: d :: u).length 0 = 1 := by
          refine lenFrom_eq (by simp) (fun j hj => ?_) (Or.inr ?_)
          · obtain rfl : j = 0 := by omega
            show beginsN [c] = true
            rw [hb, begins_one]; exact decide_eq_true hc
          · show beginsN [c, d] = false
            rw [hb, begins_two]; exact decide_eq_false hd
        by_cases hm : [c] ∈ marksL
        · rw [stepR_mark hn (by show wholeN [c] = _; rw [hw, if_pos hm])]
          clear hn hP hw hb h2 h1
          simp only [firstsL, List.mem_cons, List.not_mem_nil, or_false] at hc
          rcases hc with rfl | rfl | rfl | rfl | rfl | rfl | rfl | rfl | rfl | rfl | rfl | rfl | rfl <;> first | (exact absurd hm (by decide)) | (simp at hd; simp [markN, marksL, List.find?, List.isPrefixOf]; done) | (simp at hd; simp [markN, marksL, List.find?, List.isPrefixOf]; grind)
        · rw [stepR_none hn (by show wholeN [c] = _; rw [hw, if_neg hm])]
          clear hn hP hw hb h2 h1
          simp only [firstsL, List.mem_cons, List.not_mem_nil, or_false] at hc
          rcases hc with rfl | rfl | rfl | rfl | rfl | rfl | rfl | rfl | rfl | rfl | rfl | rfl | rfl <;> first | (exact absurd (by decide) hm) | (simp at hd; simp [markN, marksL, List.find?, List.isPrefixOf]; done) | (simp at hd; simp [markN, marksL, List.find?, List.isPrefixOf]; grind)
  · have hn : lenFrom (c :: t) (c :: t).length 0 = 0 := by
      refine lenFrom_eq (Nat.zero_le _) (fun j hj => by omega) (Or.inr ?_)
      show beginsN [c] = false
      rw [hb, begins_one]; exact decide_eq_false hc
    rw [stepR_none hn (by exact whole_nil)]
    have hf : marksL.find? (fun m => m.isPrefixOf (c :: t)) = none := by
      simp [firstsL] at hc
      rw [List.find?_eq_none]
      intro m hm
      simp only [marksL, List.mem_cons, List.not_mem_nil, or_false] at hm
      rcases hm with rfl | rfl | rfl | rfl | rfl | rfl | rfl | rfl | rfl | rfl | rfl | rfl | rfl | rfl | rfl | rfl <;> simp [List.isPrefixOf] <;> omega
    have hm : markN (c :: t) = ([], 0) := by
      unfold markN
      rw [hf]
      simp [firstsL] at hc
      simp only
      rw [if_neg (by simp; omega)]
    rw [hm, if_pos rfl]
theorem step_same (r : List Nat) : stepR r = stepP r := by
  cases r with
  | nil => decide
  | cons c t =>
    by_cases h1 : 48 ≤ c ∧ c ≤ 57
    · exact step_digit h1 t
    · cases h2 : letterN c with
      | true => exact step_letter h2 t
      | false => exact step_mark h1 h2 t
end Go.Proofs.YtpkggobhhieeoaaDoor
namespace Go.Proofs.YtpkggobhhieeoaaDoor
open Go.RowKit
theorem drop_bs {l : List Nat} {k c : Nat} (h : l[k]? = some c) : l.drop k = c :: l.drop (k + 1) := by
  have hk := (List.getElem?_eq_some_iff.1 h).1
  rw [List.drop_eq_getElem_cons hk, (List.getElem?_eq_some_iff.1 h).2]
def escV (l : List Nat) : Value := match esc l with
  | (some (c, n), _) => .tuple #[.int .u8 (c : Int), .int .i64 (n : Int), .bool true]
  | (none, n) => .tuple #[.int .u8 0, .int .i64 (n : Int), .bool false]
theorem bits_or (h l : Nat) (hh : h < 16) (hl : l < 16) : bits .or .u8 ((h : Int) * 16) (l : Int) = (h : Int) * 16 + (l : Int) := by
  have : ∀ h l : Fin 16, bits .or .u8 ((h.1 : Int) * 16) (l.1 : Int) = (h.1 : Int) * 16 + (l.1 : Int) := by decide +kernel
  exact this ⟨h, hh⟩ ⟨l, hl⟩
theorem hidden_at (i : Int) (n : Nat) (b : Bool) (hi : i = (n : Int)) (hb : hiddenN n = b) (w : World) : Calls Tryd.prog 50 #[.int .u8 i] w fun e w' => e = .returned (.bool b) ∧ Quiet w w' := by
  subst hi hb
  exact hidden_any n w
theorem escape_any (s : ByteArray) (b : Nat) (l : List Nat) (hl : bs s = b :: l) (hs : s.size ≤ maxLen) (w : World) : Calls Tryd.prog 58 #[.string s] w fun e w' => e = .returned (escV l) ∧ Quiet w w' := by
  unfold maxLen at hs
  have hsz : s.size = l.length + 1 := by rw [← bs_len, hl]; rfl
  have hby : Bytes l := fun n hn => bs_bytes s n (by rw [hl]; exact List.mem_cons_of_mem _ hn)
  match l, hl, hsz, hby with
  | [], hl, hsz, _ =>
    simp at hsz
    go_enter Tryd.func58, Tryd.ntmps58
    go_wp2_with fail
    go_ret3
    exact ⟨rfl, Quiet.refl _⟩
  | d :: t, hl, hsz, hby =>
    have d256 : d < 256 := hby d (List.mem_cons_self ..)
    have hge : ¬ s.size < 2 := by simp at hsz; omega
    have i1 := fun W => index_txt W 9 Tryd.underlying9 (s := s) (k := 1) (c := d) (by rw [hl]; rfl) .i64 1 rfl
    have I1 := zH i1
    clear i1
    by_cases h1 : d = 34
    · subst h1
      have i1 := I1.out
      go_enter Tryd.func58, Tryd.ntmps58
      go_wp2_with fail
      go_ret3
      exact ⟨rfl, Quiet.refl _⟩
    have e1 : ((d : Int) == 34) = false := by simp; omega
    by_cases h2 : d = 92
    · subst h2
      have i1 := I1.out
      go_enter Tryd.func58, Tryd.ntmps58
      go_wp2_with fail
      go_ret3
      exact ⟨rfl, Quiet.refl _⟩
    have e2 : ((d : Int) == 92) = false := by simp; omega
    by_cases h3 : d = 110
    · subst h3
      have i1 := I1.out
      go_enter Tryd.func58, Tryd.ntmps58
      go_wp2_with fail
      go_ret3
      exact ⟨rfl, Quiet.refl _⟩
    have e3 : ((d : Int) == 110) = false := by simp; omega
    by_cases h4 : d = 120
    · subst h4
      match t, hl, hsz, hby with
      | [], hl, hsz, _ =>
        have i1 := I1.out
        simp at hsz
        go_enter Tryd.func58, Tryd.ntmps58
        go_wp2_with fail
        go_ret3
        exact ⟨rfl, Quiet.refl _⟩
      | h :: t, hl, hsz, hby =>
        have h256 : h < 256 := hby h (by simp)
        have hge3 : ¬ s.size < 3 := by simp at hsz; omega
        have i2 := fun W => index_txt W 9 Tryd.underlying9 (s := s) (k := 2) (c := h) (by rw [hl]; rfl) .i64 2 rfl
        have I2 := zH i2
        clear i2
        have hd : digitN h ≤ 16 := by unfold digitN; split <;> (try split) <;> omega
        have D1 := zH (fun W => digit_any h h256 W)
        obtain ⟨dh, hdh⟩ : ∃ dh, digitN h = dh := ⟨_, rfl⟩
        rw [hdh] at hd D1
        by_cases h5 : 15 < dh
        · have hv : esc (120 :: h :: t) = (none, 2) := by simp [esc, hdh, h5]
          have Hv : escV (120 :: h :: t) = .tuple #[.int .u8 0, .int .i64 2, .bool false] := by simp [escV, hv]
          have HV := zH Hv
          clear hv Hv
          have i1 := I1.out
          have i2 := I2.out
          go_enter Tryd.func58, Tryd.ntmps58
          go_wp2_with (go_at_call 80; refine (D1.out _).mono ?_; rintro e w1 ⟨rfl, q1⟩)
          go_ret3
          exact ⟨by rw [HV.out]; rfl, q1⟩
        · obtain ⟨ha, hha⟩ : ∃ ha, hiddenN (16 * dh) = ha := ⟨_, rfl⟩
          obtain ⟨hb, hhb⟩ : ∃ hb, hiddenN (16 * dh + 15) = hb := ⟨_, rfl⟩
          have A1 := zH (fun W => hidden_at ((dh : Int) * 16) (16 * dh) ha (by omega) hha W)
          have B1 := zH (fun W => hidden_at ((dh : Int) * 16 + 15) (16 * dh + 15) hb (by omega) hhb W)
          have o1 : bits .or .u8 ((dh : Int) * 16) 15 = (dh : Int) * 16 + 15 := bits_or dh 15 (by omega) (by omega)
          have dlt : decide (15 < (dh : Int)) = false := by simp; omega
          by_cases hc : ha = false ∧ hb = false
          · obtain ⟨rfl, rfl⟩ := hc
            have Hv : escV (120 :: h :: t) = .tuple #[.int .u8 0, .int .i64 2, .bool false] := by simp [escV, esc, hdh, h5, hha, hhb]
            have HV := zH Hv
            clear Hv hha hhb
            have i1 := I1.out
            have i2 := I2.out
            have tok : True := trivial
            go_enter Tryd.func58, Tryd.ntmps58
            go_wp2_with (first
              | (go_at_call 80; refine (D1.out _).mono ?_; rintro e w1 ⟨rfl, q1⟩)
              | (go_at_call 50; have _t := tok; refine (A1.out _).mono ?_; rintro e w2 ⟨rfl, q2⟩; clear tok _t)
              | (go_at_call 50; refine (B1.out _).mono ?_; rintro e w3 ⟨rfl, q3⟩))
            go_ret3
            exact ⟨by rw [HV.out]; rfl, (q1.trans q2).trans q3⟩
          · -- it may be hidden: go on
            have Hor : ha = true ∨ (ha = false ∧ hb = true) := by
              cases ha <;> cases hb <;> simp at hc ⊢
            have hcond : ¬ (15 < dh ∨ (hiddenN (16 * dh) = false ∧ hiddenN (16 * dh + 15) = false)) := by
              rw [hha, hhb]
              intro hx
              rcases hx with hx | hx
              · exact h5 hx
              · exact hc hx
            clear hha hhb
            match t, hl, hsz, hby with
            | [], hl, hsz, _ =>
              have Hv : escV [120, h] = .tuple #[.int .u8 0, .int .i64 3, .bool false] := by simp only [escV, esc, hdh]; rw [if_neg (by omega), if_neg (by omega), if_neg (by simp), if_neg hcond]; rfl
              have HV := zH Hv
              clear Hv hcond
              simp at hsz
              rcases Hor with rfl | ⟨rfl, rfl⟩
              · have i1 := I1.out
                have i2 := I2.out
                go_enter Tryd.func58, Tryd.ntmps58
                go_wp2_with (first
                  | (go_at_call 80; refine (D1.out _).mono ?_; rintro e w1 ⟨rfl, q1⟩)
                  | (go_at_call 50; refine (A1.out _).mono ?_; rintro e w2 ⟨rfl, q2⟩))
                go_ret3
                exact ⟨by rw [HV.out]; rfl, q1.trans q2⟩
              · have i1 := I1.out
                have i2 := I2.out
                have tok : True := trivial
                go_enter Tryd.func58, Tryd.ntmps58
                go_wp2_with (first
                  | (go_at_call 80; refine (D1.out _).mono ?_; rintro e w1 ⟨rfl, q1⟩)
                  | (go_at_call 50; have _t := tok; refine (A1.out _).mono ?_; rintro e w2 ⟨rfl, q2⟩; clear tok _t)
                  | (go_at_call 50; refine (B1.out _).mono ?_; rintro e w3 ⟨rfl, q3⟩))
                go_ret3
                exact ⟨by rw [HV.out]; rfl, (q1.trans q2).trans q3⟩
            | lo :: t, hl, hsz, hby =>
              have lo256 : lo < 256 := hby lo (by simp)
              have hge4 : ¬ s.size < 4 := by simp at hsz; omega
              have i3 := fun W => index_txt W 9 Tryd.underlying9 (s := s) (k := 3) (c := lo) (by rw [hl]; rfl) .i64 3 rfl
              have I3 := zH i3
              clear i3
              have hd' : digitN lo ≤ 16 := by unfold digitN; split <;> (try split) <;> omega
              have E1 := zH (fun W => digit_any lo lo256 W)
              obtain ⟨dl, hdl⟩ : ∃ dl, digitN lo = dl := ⟨_, rfl⟩
              rw [hdl] at hd' E1
              -- what is common to all: the calls up to the second digit
              by_cases h6 : 15 < dl
              · have Hv : escV (120 :: h :: lo :: t) = .tuple #[.int .u8 0, .int .i64 3, .bool false] := by simp only [escV, esc, hdh, hdl]; rw [if_neg (by omega), if_neg (by omega), if_neg (by simp), if_neg hcond, if_pos (Or.inl h6)]; rfl
                have HV := zH Hv
                clear Hv hcond
                have tok : True := trivial
                have tok2 : True := trivial
                rcases Hor with rfl | ⟨rfl, rfl⟩
                · have i1 := I1.out
                  have i2 := I2.out
                  have i3 := I3.out
                  go_enter Tryd.func58, Tryd.ntmps58
                  go_wp2_with (first
                    | (go_at_call 80; have _t := tok; refine (D1.out _).mono ?_; rintro e w1 ⟨rfl, q1⟩; clear tok _t)
                    | (go_at_call 80; refine (E1.out _).mono ?_; rintro e w4 ⟨rfl, q4⟩)
                    | (go_at_call 50; refine (A1.out _).mono ?_; rintro e w2 ⟨rfl, q2⟩))
                  go_ret3
                  exact ⟨by rw [HV.out]; rfl, (q1.trans q2).trans q4⟩
                · have i1 := I1.out
                  have i2 := I2.out
                  have i3 := I3.out
                  go_enter Tryd.func58, Tryd.ntmps58
                  go_wp2_with (first
                    | (go_at_call 80; have _t := tok; refine (D1.out _).mono ?_; rintro e w1 ⟨rfl, q1⟩; clear tok _t)
                    | (go_at_call 80; refine (E1.out _).mono ?_; rintro e w4 ⟨rfl, q4⟩)
                    | (go_at_call 50; have _t := tok2; refine (A1.out _).mono ?_; rintro e w2 ⟨rfl, q2⟩; clear tok2 _t)
                    | (go_at_call 50; refine (B1.out _).mono ?_; rintro e w3 ⟨rfl, q3⟩))
                  go_ret3
                  exact ⟨by rw [HV.out]; rfl, ((q1.trans q2).trans q3).trans q4⟩
              · obtain ⟨hf, hhf⟩ : ∃ hf, hiddenN (16 * dh + dl) = hf := ⟨_, rfl⟩
                have F1 := zH (fun W => hidden_at ((dh : Int) * 16 + (dl : Int)) (16 * dh + dl) hf (by omega) hhf W)
                have o2 : bits .or .u8 ((dh : Int) * 16) (dl : Int) = (dh : Int) * 16 + (dl : Int) := bits_or dh dl (by omega) (by omega)
                have dlt2 : decide (15 < (dl : Int)) = false := by simp; omega
                have Hv : escV (120 :: h :: lo :: t) = (if hf then .tuple #[.int .u8 ((dh : Int) * 16 + (dl : Int)), .int .i64 4, .bool true] else .tuple #[.int .u8 0, .int .i64 3, .bool false]) := by
                  simp only [escV, esc, hdh, hdl]
                  rw [if_neg (by omega), if_neg (by omega), if_neg (by simp), if_neg hcond, hhf]
                  cases hf
                  · rw [if_pos (Or.inr rfl)]; rfl
                  · rw [if_neg (by simp; omega)]
                    have : ((16 * dh + dl : Nat) : Int) = (dh : Int) * 16 + (dl : Int) := by omega
                    simp only [this]; rfl
                have HV := zH Hv
                clear Hv hcond hhf
                have tok : True := trivial
                have tok2 : True := trivial
                have tok3 : True := trivial
                cases hf
                all_goals rcases Hor with rfl | ⟨rfl, rfl⟩
                all_goals
                  have i1 := I1.out
                  have i2 := I2.out
                  have i3 := I3.out
                  go_enter Tryd.func58, Tryd.ntmps58
                  go_wp2_with (first
                    | (go_at_call 80; have _t := tok; refine (D1.out _).mono ?_; rintro e w1 ⟨rfl, q1⟩; clear tok _t)
                    | (go_at_call 80; refine (E1.out _).mono ?_; rintro e w4 ⟨rfl, q4⟩)
                    | (go_at_call 50; have _t := tok2; refine (A1.out _).mono ?_; rintro e w2 ⟨rfl, q2⟩; clear tok2 _t)
                    | (go_at_call 50; have _t := q4; refine (F1.out _).mono ?_; rintro e w5 ⟨rfl, q5⟩)
                    | (go_at_call 50; refine (B1.out _).mono ?_; rintro e w3 ⟨rfl, q3⟩))
                  go_ret3
                  first
                    | exact ⟨by rw [HV.out]; rfl, ((q1.trans q2).trans q4).trans q5⟩
                    | exact ⟨by rw [HV.out]; rfl, (((q1.trans q2).trans q3).trans q4).trans q5⟩
    · have hv : escV (d :: t) = .tuple #[.int .u8 0, .int .i64 1, .bool false] := by simp [escV, esc, h1, h2, h3, h4]
      have HV := zH hv
      clear hv
      have e4 : ((d : Int) == 120) = false := by simp; omega
      have i1 := I1.out
      go_enter Tryd.func58, Tryd.ntmps58
      go_wp2_with fail
      go_ret3
      exact ⟨by rw [HV.out]; rfl, Quiet.refl _⟩
end Go.Proofs.YtpkggobhhieeoaaDoor
namespace Go.Proofs.YtpkggobhhieeoaaDoor
open Go.RowKit
theorem info_byte : (Tryd.prog.info? 5).map (fun i => (i.zero, i.size, i.bytes)) = some (some (.int .u8 0), 1, 1) := by kernel_rfl
theorem formN_bytes (c : Nat) (hc : c < 256) : Bytes (formN c) := by
  intro n hn
  rcases form_cases c with ⟨_, h⟩ | ⟨_, h⟩ | ⟨_, h⟩ | ⟨_, _, _, _, h⟩ | ⟨_, h⟩ <;> rw [h] at hn <;> simp at hn
  · omega
  · omega
  · omega
  · omega
  · have h1 := hexN_lt (c / 16) (by omega)
    have h2 := hexN_lt (c % 16) (by omega)
    omega
end Go.Proofs.YtpkggobhhieeoaaDoor
namespace Go.Proofs.YtpkggobhhieeoaaDoor
open Go.RowKit
theorem one_some {r : List Nat} (hr : Bytes r) (h34 : r.head? ≠ some 34) {c n m : Nat} (h : one r = (some (c, n), m)) : c < 256 ∧ n = (formN c).length ∧ ∃ t, r = formN c ++ t := by
  match r, h34, h, hr with
  | [], _, h, _ => simp [one] at h
  | b :: t, h34, h, hr =>
    have b256 : b < 256 := hr b (by simp)
    by_cases hb : b = 92
    · subst hb
      simp only [one, if_pos] at h
      match t, h, hr with
      | [], h, _ => simp [esc] at h
      | d :: t, h, hr =>
        by_cases h1 : d = 34
        · subst h1; simp [esc] at h; obtain ⟨⟨rfl, rfl⟩, _⟩ := h; exact ⟨by omega, rfl, t, rfl⟩
        by_cases h2 : d = 92
        · subst h2; simp [esc] at h; obtain ⟨⟨rfl, rfl⟩, _⟩ := h; exact ⟨by omega, rfl, t, rfl⟩
        by_cases h3 : d = 110
        · subst h3; simp [esc] at h; obtain ⟨⟨rfl, rfl⟩, _⟩ := h; exact ⟨by omega, rfl, t, rfl⟩
        by_cases h4 : d = 120
        · subst h4
          match t, h, hr with
          | [], h, _ => simp [esc] at h
          | x :: t, h, hr =>
            by_cases hg : 15 < digitN x ∨ (hiddenN (16 * digitN x) = false ∧ hiddenN (16 * digitN x + 15) = false)
            · simp [esc, hg] at h
            · match t, h, hr with
              | [], h, _ => simp [esc, hg] at h
              | y :: t, h, hr =>
                by_cases hl : 15 < digitN y ∨ hiddenN (16 * digitN x + digitN y) = false
                · simp [esc, hg, hl] at h
                · simp [esc, hg, hl] at h
                  obtain ⟨⟨rfl, rfl⟩, _⟩ := h
                  have d1 : digitN x ≤ 15 := by omega
                  have d2 : digitN y ≤ 15 := by omega
                  have hh : hiddenN (16 * digitN x + digitN y) = true := by
                    rcases hb : hiddenN (16 * digitN x + digitN y) with _ | _
                    · exact absurd (Or.inr hb) hl
                    · rfl
                  have q1 : (16 * digitN x + digitN y) / 16 = digitN x := by omega
                  have q2 : (16 * digitN x + digitN y) % 16 = digitN y := by omega
                  rw [form_hidden hh, q1, q2, hex_of_digit x d1, hex_of_digit y d2]
                  exact ⟨by omega, rfl, t, rfl⟩
        · simp [esc, h1, h2, h3, h4] at h
    · by_cases hp : b < 32 ∨ 126 < b
      · simp [one, hb, hp] at h
      · simp [one, hb, hp] at h
        obtain ⟨⟨rfl, rfl⟩, _⟩ := h
        have h34' : b ≠ 34 := by simpa using h34
        rw [form_plain (by omega) (by omega) h34' hb]
        exact ⟨b256, rfl, t, rfl⟩
theorem esc_some {l : List Nat} (hl : Bytes l) {c n m : Nat} (h : esc l = (some (c, n), m)) : c < 256 ∧ 2 ≤ n ∧ n ≤ l.length + 1 := by
  have h1 : one (92 :: l) = (some (c, n), m) := by simp [one, h]
  obtain ⟨c1, c2, t, c3⟩ := one_some (fun k hk => by rcases List.mem_cons.1 hk with rfl | hk; omega; exact hl k hk) (by simp) h1
  have e := congrArg List.length c3
  simp at e
  have : formN c ≠ [92] := by
    rcases form_cases c with ⟨_, h⟩ | ⟨_, h⟩ | ⟨_, h⟩ | ⟨_, _, _, h4, h⟩ | ⟨_, h⟩ <;> rw [h] <;> simp [*]
  have hl1 : (formN c).length ≠ 1 := by
    intro hl1
    match hf : formN c, hl1, c3 with
    | [z], _, c3 =>
      injection c3 with c4 _
      exact this (by rw [hf, ← c4])
  have := form_len c
  omega
theorem esc_none {l : List Nat} {n : Nat} (h : esc l = (none, n)) : 1 ≤ n ∧ n ≤ l.length + 1 := by
  match l, h with
  | [], h => simp [esc] at h; subst h; simp
  | d :: t, h =>
    simp only [esc] at h
    split at h
    · simp at h
    · split at h
      · simp at h
      · split at h
        · simp at h; subst h; simp
        · match t, h with
          | [], h => simp at h; subst h; simp
          | x :: t, h =>
            simp only at h
            split at h
            · simp at h; subst h; simp
            · match t, h with
              | [], h => simp at h; subst h; simp
              | y :: t, h =>
                simp only at h
                split at h
                · simp at h; subst h; simp
                · simp at h
def unq (l : List Nat) : Nat → Nat → List Nat → List Nat × Nat × Nat
  | 0, i, _ => ([], i, 10)
  | f + 1, i, out => if l[i]? = some 34 then (out, i + 1, 0) else
    match one (l.drop i) with
    | (some (c, n), _) => unq l f (i + n) (out ++ [c])
    | (none, far) => ([], i + far, 10)
def unquoteN (l : List Nat) (a : Int) : List Nat × Int × Nat :=
  if a < 0 ∨ (l.length : Int) < a then ([], 0, 2) else if l[a.toNat]? ≠ some 34 then ([], a, 10) else
    ((unq l (l.length + 1) (a.toNat + 1) []).1, ((unq l (l.length + 1) (a.toNat + 1) []).2.1 : Int), (unq l (l.length + 1) (a.toNat + 1) []).2.2)
def unqV (r : List Nat × Int × Nat) : Value := .tuple #[.string (txt r.1), .int .i64 r.2.1, .int .i64 (r.2.2 : Int)]
theorem unq_end {l : List Nat} {f i : Nat} {o : List Nat} {R : List Nat × Nat × Nat} (h : unq l f i o = R) (hf : 1 ≤ f) (hi : l[i]? = some 34) : R = (o, i + 1, 0) := by
  obtain ⟨f, rfl⟩ : ∃ g, f = g + 1 := ⟨f - 1, by omega⟩
  rw [← h, unq, if_pos hi]
theorem unq_stop {l : List Nat} {f i far : Nat} {o : List Nat} {R : List Nat × Nat × Nat} (h : unq l f i o = R) (hf : 1 ≤ f) (hi : l[i]? ≠ some 34) (ho : one (l.drop i) = (none, far)) : R = ([], i + far, 10) := by
  obtain ⟨f, rfl⟩ : ∃ g, f = g + 1 := ⟨f - 1, by omega⟩
  rw [← h, unq, if_neg hi, ho]
theorem unq_step {l : List Nat} {f i c n m : Nat} {o : List Nat} {R : List Nat × Nat × Nat} (h : unq l f i o = R) (hf : 1 ≤ f) (hi : l[i]? ≠ some 34) (ho : one (l.drop i) = (some (c, n), m)) : unq l (f - 1) (i + n) (o ++ [c]) = R := by
  obtain ⟨f, rfl⟩ : ∃ g, f = g + 1 := ⟨f - 1, by omega⟩
  rw [← h, unq, if_neg hi, ho]
  rfl
theorem unquote_any (s : ByteArray) (a : Int) (ha : (Lit.int .i64 a).wf = true) (hs : s.size ≤ 1048576) (w : World) : Calls Tryd.prog 41 #[.string s, .int .i64 a] w fun e w' => e = .returned (unqV (unquoteN (bs s) a)) ∧ Below w.heap.size w w' := by
  obtain ⟨j, hi, hz, hsz, hby⟩ := info_parts info_byte
  have I := zH (And.intro hi (And.intro hz (And.intro hsz hby)))
  clear hi hz hsz hby
  obtain ⟨n, hn⟩ : ∃ n, s.size = n := ⟨_, rfl⟩
  have Hn := zH hn
  have hln : (bs s).length = n := by rw [bs_len, hn]
  have Hln := zH hln
  rw [hn] at hs
  have hn' : (s.size : Int) = (n : Int) := by rw [hn]
  clear hn
  by_cases h1 : a < 0
  · have hv : unquoteN (bs s) a = ([], 0, 2) := by simp [unquoteN, h1]
    have HV := zH hv
    clear hv hln
    go_enter Tryd.func41, Tryd.ntmps41
    go_wp2_with fail
    go_step3
    go_wp2_with fail
    rw [Exit.noGoto_ret]
    go_ret3
    exact ⟨by rw [HV.out]; rfl, zB⟩
  have d1 : decide (a < 0) = false := by simpa using h1
  by_cases h2 : (n : Int) < a
  · have hv : unquoteN (bs s) a = ([], 0, 2) := by simp [unquoteN, hln, h2]
    have HV := zH hv
    clear hv hln
    go_enter Tryd.func41, Tryd.ntmps41
    go_wp2_with fail
    go_step3
    go_wp2_with fail
    rw [Exit.noGoto_ret]
    go_ret3
    exact ⟨by rw [HV.out]; rfl, zB⟩
  have d2 : decide ((n : Int) < a) = false := by simpa using h2
  obtain ⟨k0, rfl⟩ : ∃ k : Nat, a = (k : Int) := ⟨a.toNat, by omega⟩
  have hgate : unquoteN (bs s) k0 = if (bs s)[k0]? ≠ some 34 then ([], (k0 : Int), 10) else ((unq (bs s) (n + 1) (k0 + 1) []).1, ((unq (bs s) (n + 1) (k0 + 1) []).2.1 : Int), (unq (bs s) (n + 1) (k0 + 1) []).2.2) := by
    unfold unquoteN
    rw [if_neg (by rw [hln]; omega), hln]
    rfl
  have d2' : decide (n < k0) = false := by simp; omega
  by_cases h3 : k0 = n
  · subst h3
    have hv : unquoteN (bs s) k0 = ([], (k0 : Int), 10) := by
      rw [hgate, if_pos (by rw [List.getElem?_eq_none (by omega)]; simp)]
    have HV := zH hv
    clear hv hln hgate
    go_enter Tryd.func41, Tryd.ntmps41
    go_wp2_with fail
    go_step3
    go_wp2_with fail
    rw [Exit.noGoto_ret]
    go_ret3
    exact ⟨by rw [HV.out]; rfl, zB⟩
  have d3 : ((k0 : Int) == (n : Int)) = false := by simp; omega
  have hk0 : k0 < s.size := by omega
  have b0 : (0 : Int) ≤ (k0 : Int) := Int.natCast_nonneg _
  obtain ⟨c0, hc0, c0256⟩ := get_bs hk0
  have i0 := fun W => index_txt W 9 Tryd.underlying9 hc0 .i64 _ rfl
  by_cases h4 : c0 = 34
  · subst h4
    rw [hc0, if_neg (by simp)] at hgate
    have HG := zH hgate
    have hR : unq (bs s) (n + 1) (k0 + 1) [] = unq (bs s) (n + 1) (k0 + 1) [] := rfl
    generalize hRR : unq (bs s) (n + 1) (k0 + 1) [] = R at HG hR
    clear hR
    have HR := zH hRR
    have I0 := zH i0
    clear hgate hc0 hRR hln i0
    have i0 := I0.out
    go_enter Tryd.func41, Tryd.ntmps41
    go_wp2_with fail
    go_step3
    go_wp2_with fail
    go_step3
    go_wp2_with fail
    go_loopw [7, 8] (fun o i wr => ∃ (k f : Nat) (out : List Nat), k ≤ n ∧ n < f + k ∧ i = .int .i64 k ∧ Hid (unq (bs s) f k out = R) ∧ Below w.heap.size w wr ∧ Hid (Own1 wr w.heap.size 5 1 IsByte o out ∧ out.length ≤ k)) (fun _ i _ => n - (intOf i).toNat)
    case atStart => exact ⟨k0 + 1, n + 1, [], by omega, by omega, by go_num, HR.out, zB, ⟨[], World.ownsRow_nil _ _ _ _, FlatR.nil_⟩, by simp⟩
    case round =>
      obtain ⟨k, f, out, hk, hf, rfl, hu, hb, ho⟩ := hrel
      clear i0 I0
      have b1 : (0 : Int) ≤ (k : Int) := Int.natCast_nonneg _
      by_cases hlt : k < n
      · have hlt' : k < s.size := by omega
        obtain ⟨c, hc, c256⟩ := get_bs hlt'
        have i1 := fun W => index_txt W 9 Tryd.underlying9 hc .i64 _ rfl
        have hdrop := drop_bs hc
        have hbz := hb.size
        by_cases c1 : c = 34
        · subst c1
          have hv := unq_end hu.out (by omega) hc
          have HV := zH hv
          have hcv := run_text_of_row 50 9 5 Tryd.underlying50 Tryd.underlying5 Tryd.underlying9 ho.out.1
          clear hv hc hdrop
          go_wp2_with fail
          (try simp only [Exit.inBlock, Exit.then, Exit.noGoto_ret])
          go_ret3
          exact ⟨by rw [HG.out, HV.out]; rfl, hb⟩
        have e1 : ((c : Int) == 34) = false := by simp; omega
        have hne : (bs s)[k]? ≠ some 34 := by rw [hc]; simpa using c1
        by_cases c2 : c = 92
        · subst c2
          have hone : one ((bs s).drop k) = esc ((bs s).drop (k + 1)) := by rw [hdrop]; rfl
          have hx : bs (s.extract k s.size) = 92 :: (bs s).drop (k + 1) := by
            rw [bs_extract, ← hdrop, List.take_of_length_le (by rw [bs_len]; exact Nat.le_refl _)]
          have hxs : (s.extract k s.size).size ≤ maxLen := by
            rw [← bs_len, hx, List.length_cons, List.length_drop, Hln.out]; unfold maxLen; omega
          have hby : Bytes ((bs s).drop (k + 1)) := fun m hm => bs_bytes s m (List.mem_of_mem_drop hm)
          have hdl : ((bs s).drop (k + 1)).length = n - (k + 1) := by rw [List.length_drop, Hln.out]
          have E : Hid (∀ W, Calls Tryd.prog 58 #[.string (s.extract k s.size)] W fun e w' => e = .returned (escV ((bs s).drop (k + 1))) ∧ Quiet W w') := zH (fun W => escape_any (s.extract k s.size) 92 ((bs s).drop (k + 1)) hx hxs W)
          have tok : True := trivial
          rcases hE : esc ((bs s).drop (k + 1)) with ⟨_ | ⟨c', n'⟩, m'⟩
          · have hm := esc_none hE
            rw [hdl] at hm
            have hv := unq_stop hu.out (by omega) hne (hone.trans hE)
            have HV := zH hv
            have he : escV ((bs s).drop (k + 1)) = .tuple #[.int .u8 0, .int .i64 (m' : Int), .bool false] := by simp [escV, hE]
            rw [he] at E
            clear hv hc hdrop hone hx hxs hby hdl hne hE he
            go_wp2_with (first
              | (go_at_call 58; have _t := tok; refine (E.out _).mono ?_; rintro e w1 ⟨rfl, qq⟩; clear tok _t)
              | (go_at_call 58; trace_state; fail))
            (try simp only [Exit.inBlock, Exit.then, Exit.noGoto_ret])
            go_ret3
            exact ⟨by rw [HG.out, HV.out]; simp [unqV, txt], by obtain ⟨q, rfl⟩ := qq; exact below_drewN hb q⟩
          · have hm := esc_some hby hE
            rw [hdl] at hm
            have hv := unq_step hu.out (by omega) hne (hone.trans hE)
            have HV := zH hv
            have he : escV ((bs s).drop (k + 1)) = .tuple #[.int .u8 (c' : Int), .int .i64 (n' : Int), .bool true] := by simp [escV, hE]
            rw [he] at E
            clear hv hc hdrop hone hx hxs hby hdl hne hE he
            obtain ⟨hol, hok⟩ := ho.out
            have Ho := zH hol
            clear ho hol
            go_wp2_with (first
              | (go_at_call 58; have _t := tok; refine (E.out _).mono ?_; rintro e w1 ⟨rfl, qq⟩
                 have ho1 : Hid (Own1 w1 w.heap.size 5 1 IsByte u7 out) := by
                   obtain ⟨q, rfl⟩ := qq
                   exact Ho.out.drewN q
                 have hb1 : Below w.heap.size w w1 := by
                   obtain ⟨q, rfl⟩ := qq
                   exact below_drewN hb q
                 have hz1 := hb1.size
                 clear tok _t qq Ho hb)
              | (at_builtin
                 go_must (refine wpList_append_bytes rfl (.tmp 70) (.tmp 72) _ rfl w.heap.size (w1.heap.size + 1) 5 j Tryd.underlying50 I.out.1 I.out.2.1 I.out.2.2.1 I.out.2.2.2 (l := out) (m := [c']) u7 rfl (by exact ho1.out.alloc _) (some ⟨w1.heap.size, 0, none⟩) 1 1 rfl (by exact bytes_row (xs := [.int .u8 (c' : Int)]) rfl rfl (fun m hm => by simp at hm; omega) (by simp [maxLen]) 1 1 rfl rfl) (by omega) (by rw [World.size_alloc]; omega) ?_)
                 intro xa xn xc w4 hown hb4
                 have hbb : Below w.heap.size w w4 := (hb1.alloc (by omega) _).trans hb4))
            go_roundw
            case rel => exact ⟨k + n', f - 1, out ++ [c'], by omega, by omega, by go_num, HV.out, hbb, hown, by simp; omega⟩
            case measure => simp [intOf]; omega
        have e2 : ((c : Int) == 92) = false := by simp; omega
        by_cases c3 : c < 32 ∨ 126 < c
        · have hone : one ((bs s).drop k) = (none, 0) := by rw [hdrop]; simp [one, c2, c3]
          have hv := unq_stop hu.out (by omega) hne hone
          have HV := zH hv
          clear hv hc hdrop hone hne
          have c3' : c < 32 ∨ (¬ c < 32 ∧ 126 < c) := by omega
          clear c3
          rcases c3' with c3 | ⟨c3, c4⟩
          all_goals
            go_wp2_with fail
            (try simp only [Exit.inBlock, Exit.then, Exit.noGoto_ret])
            go_ret3
            exact ⟨by rw [HG.out, HV.out]; simp [unqV, txt], hb⟩
        · have hone : one ((bs s).drop k) = (some (c, 1), 1) := by rw [hdrop]; simp [one, c2, c3]
          have hv := unq_step hu.out (by omega) hne hone
          have HV := zH hv
          have c4 : ¬ c < 32 := by omega
          have c5 : ¬ 126 < c := by omega
          clear hv hc hdrop hone hne c3
          obtain ⟨hol, hok⟩ := ho.out
          have Ho := zH hol
          clear ho hol
          go_wp2_with (at_builtin
                       go_must (refine wpList_append_bytes rfl (.tmp 41) (.tmp 43) _ rfl w.heap.size (wr.heap.size + 1) 5 j Tryd.underlying50 I.out.1 I.out.2.1 I.out.2.2.1 I.out.2.2.2 (l := out) (m := [c]) u7 rfl (by exact Ho.out.alloc _) (some ⟨wr.heap.size, 0, none⟩) 1 1 rfl (by exact bytes_row (xs := [.int .u8 (c : Int)]) rfl rfl (fun m hm => by simp at hm; omega) (by simp [maxLen]) 1 1 rfl rfl) (by omega) (by rw [World.size_alloc]; omega) ?_)
                       intro xa xn xc w4 hown hb4
                       have hbb : Below w.heap.size w w4 := (hb.alloc (by omega) _).trans hb4)
          go_roundw
          case rel => exact ⟨k + 1, f - 1, out ++ [c], by omega, by omega, by go_num, HV.out, hbb, hown, by simp; omega⟩
          case measure => simp [intOf]; omega
      · have hv := unq_stop hu.out (far := 0) (by omega) (by rw [List.getElem?_eq_none (by rw [Hln.out]; omega)]; simp) (by rw [List.drop_of_length_le (by rw [Hln.out]; omega)]; rfl)
        have HV := zH hv
        clear hv
        have hdec : decide (k < n) = false := by simp; omega
        go_wp2_with fail
        (try simp only [Exit.inBlock, Exit.then, Exit.noGoto_ret])
        go_ret3
        exact ⟨by rw [HG.out, HV.out]; simp [unqV, txt], hb⟩
  · have d4 : ((c0 : Int) != 34) = true := by simp; omega
    have hv : unquoteN (bs s) k0 = ([], (k0 : Int), 10) := by rw [hgate, if_pos (by rw [hc0]; simpa using h4)]
    have HV := zH hv
    clear hv hln hgate hc0
    go_enter Tryd.func41, Tryd.ntmps41
    go_wp2_with fail
    go_step3
    go_wp2_with fail
    rw [Exit.noGoto_ret]
    go_ret3
    exact ⟨by rw [HV.out]; rfl, zB⟩
end Go.Proofs.YtpkggobhhieeoaaDoor
