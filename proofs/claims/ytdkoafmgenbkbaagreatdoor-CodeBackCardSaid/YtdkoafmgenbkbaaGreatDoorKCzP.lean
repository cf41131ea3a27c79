/- - -/
import Derived.Test.YtdkoafmgenbkbaaGreatDoorKM8
set_option maxRecDepth 100000
set_option maxHeartbeats 32000000
set_option linter.unusedSimpArgs false
set_option linter.unusedVariables false
namespace Go.Proofs.YtdkoafmgenbkbaaGreatDoor
open Go.RowKit
theorem mem_of_contains {c : Nat} {l : List Nat} (h : l.contains c = false) : c ∉ l := fun hm => by
  have : l.contains c = true := by rw [List.contains_iff_mem]; exact hm
  rw [h] at this
  cases this
theorem cut_at {c : Nat} : ∀ {a : List Nat} (b : List Nat), c ∉ a → aheadC c (a ++ c :: b) = a ∧ behindC c (a ++ c :: b) = b
  | [], b, _ => by simp [aheadC, behindC]
  | x :: a, b, h => by
    have hx : (x != c) = true := by
      have : x ≠ c := fun e => h (by simp [e])
      simpa using this
    have ih := cut_at (c := c) (a := a) b (fun hm => h (by simp [hm]))
    unfold aheadC behindC at ih ⊢
    rw [List.cons_append, List.takeWhile_cons_of_pos (p := fun n => n != c) hx, List.dropWhile_cons_of_pos (p := fun n => n != c) hx, ih.1, ih.2]
    exact ⟨rfl, rfl⟩
theorem show_no10 (n : Int) : 10 ∉ showN n := by
  unfold showN
  split
  · intro h
    rcases List.mem_cons.1 h with h | h
    · cases h
    · have := dec_digits _ _ h; omega
  · intro h
    have := dec_digits _ _ h; omega
theorem hex_no10 (n : Nat) : hexN n ≠ 10 := by unfold hexN; split <;> omega
theorem form_no10 (n : Nat) : 10 ∉ formN n := by
  unfold formN
  repeat' split
  all_goals
    intro h
    simp at h
    try omega
  · rcases h with h | h
    · exact hex_no10 _ h.symm
    · exact hex_no10 _ h.symm
theorem quote_no10 (l : List Nat) : 10 ∉ quoteN l := by
  unfold quoteN
  intro h
  rcases List.mem_append.1 h with h | h
  · rcases List.mem_cons.1 h with h | h
    · cases h
    · obtain ⟨x, _, hx⟩ := List.mem_flatMap.1 h
      exact form_no10 x hx
  · simp at h
theorem name_no10 {l : List Nat} (h : rightN l = true) : 10 ∉ l := by
  unfold rightN at h
  cases l with
  | nil => simp
  | cons c t =>
    simp only [Bool.and_eq_true, List.all_eq_true] at h
    intro hm
    have := h.2 10 hm
    revert this
    decide
theorem word_no10 (op : Int) (h1 : 1 ≤ op) (h2 : op ≤ 40) : 10 ∉ bs (wordC op) := by
  refine mem_of_contains ?_
  rcases (by omega : op = 1 ∨ op = 2 ∨ op = 3 ∨ op = 4 ∨ op = 5 ∨ op = 6 ∨ op = 7 ∨ op = 8 ∨ op = 9 ∨ op = 10 ∨ op = 11 ∨ op = 12 ∨ op = 13 ∨ op = 14 ∨ op = 15 ∨ op = 16 ∨ op = 17 ∨ op = 18 ∨ op = 19 ∨ op = 20 ∨ op = 21 ∨ op = 22 ∨ op = 23 ∨ op = 24 ∨ op = 25 ∨ op = 26 ∨ op = 27 ∨ op = 28 ∨ op = 29 ∨ op = 30 ∨ op = 31 ∨ op = 32 ∨ op = 33 ∨ op = 34 ∨ op = 35 ∨ op = 36 ∨ op = 37 ∨ op = 38 ∨ op = 39 ∨ op = 40) with rfl | rfl | rfl | rfl | rfl | rfl | rfl | rfl | rfl | rfl | rfl | rfl | rfl | rfl | rfl | rfl | rfl | rfl | rfl | rfl | rfl | rfl | rfl | rfl | rfl | rfl | rfl | rfl | rfl | rfl | rfl | rfl | rfl | rfl | rfl | rfl | rfl | rfl | rfl | rfl
  all_goals decide +kernel
theorem plain_parts {x : Ins} (h : plainN x = true) : 1 ≤ x.op ∧ x.op ≤ 40 ∧ (hasN x.op = 1 ∨ hasN x.op = 5 ∨ x.arg = 0) ∧ (hasN x.op = 2 ∨ x.int = 0) ∧ (hasN x.op = 3 ∨ hasN x.op = 4 ∨ x.text = ⟨#[]⟩) ∧ (hasN x.op = 4 → rightN (bs x.text) = true) := by
  unfold plainN at h
  simp only [Bool.and_eq_true, decide_eq_true_eq] at h
  obtain ⟨⟨h1, h2⟩, h3⟩ := h
  refine ⟨h1.1, h1.2, h2.1, h2.2.1, h2.2.2.1, fun e => ?_⟩
  rw [if_neg (by omega), if_pos e] at h3
  exact h3
theorem line_no10 {x : Ins} (h : plainN x = true) : 10 ∉ lineC x := by
  obtain ⟨h1, h2, _, _, _, h6⟩ := plain_parts h
  rw [line_app]
  intro hm
  rcases List.mem_append.1 hm with hm | hm
  · exact word_no10 _ h1 h2 hm
  · rcases hasN_six x.op with e | e | e | e | e | e
    all_goals rw [e] at hm
    · simp at hm
    · rcases List.mem_cons.1 hm with hm | hm
      · cases hm
      · exact show_no10 _ hm
    · rcases List.mem_cons.1 hm with hm | hm
      · cases hm
      · exact show_no10 _ hm
    · rcases List.mem_cons.1 hm with hm | hm
      · cases hm
      · exact quote_no10 _ hm
    · rcases List.mem_cons.1 hm with hm | hm
      · cases hm
      · exact name_no10 (h6 e) hm
    · rcases List.mem_cons.1 hm with hm | hm
      · cases hm
      · exact show_no10 _ hm
theorem read_line {x : Ins} (hok : x.ok) (h : plainN x = true) : readN (lineC x) = some x := by
  obtain ⟨h1, h2, h3, h4, h5, _⟩ := plain_parts h
  have hw32 := mem_of_contains (word_no32 x.op h1 h2)
  have wfb : ∀ {v : Int}, (Lit.int .i64 v).wf = true → -9223372036854775808 ≤ v ∧ v ≤ 9223372036854775807 := fun h => by
    simpa [Lit.wf, IntKind.min, IntKind.max, IntKind.signed, IntKind.bits] using h
  have ba := wfb hok.2.1
  have bi := wfb hok.2.2.1
  have hx : ∀ y : Ins, y.op = x.op → y.arg = x.arg → y.int = x.int → y.text = x.text → y = x := by
    intro y e1 e2 e3 e4
    cases x; cases y
    simp only at e1 e2 e3 e4
    rw [e1, e2, e3, e4]
  by_cases h0 : hasN x.op = 0
  · have hl : lineC x = bs (wordC x.op) := by rw [line_app, h0]; exact List.append_nil _
    obtain ⟨c1, c2⟩ := ahead_all (word_no32 x.op h1 h2)
    unfold readN
    rw [hl, c1, txt_bs, op_of _ h1 h2, word_no32 _ h1 h2, c2]
    rw [if_pos ⟨h1, by simp [h0]⟩]
    have hp : putN x.op [] = some x := by
      unfold putN
      simp only [h0]
      rw [hx ⟨x.op, 0, 0, ⟨#[]⟩⟩ rfl (by rcases h3 with h | h | h; omega; omega; exact h.symm) (by rcases h4 with h | h; omega; exact h.symm) (by rcases h5 with h | h | h; omega; omega; exact h.symm)]
    rw [hp]
    simp [h]
  · obtain ⟨rest, hl, hp⟩ : ∃ rest, lineC x = bs (wordC x.op) ++ 32 :: rest ∧ putN x.op rest = some x := by
      rcases hasN_six x.op with e | e | e | e | e | e
      · exact absurd e h0
      · refine ⟨showN x.arg, by rw [line_app, e]; rfl, ?_⟩
        unfold putN
        simp only [e, intN_show ba.1 ba.2, Option.map_some]
        rw [hx ⟨x.op, x.arg, 0, ⟨#[]⟩⟩ rfl rfl (by rcases h4 with h | h; omega; exact h.symm) (by rcases h5 with h | h | h; omega; omega; exact h.symm)]
      · refine ⟨showN x.int, by rw [line_app, e]; rfl, ?_⟩
        unfold putN
        simp only [e, intN_show bi.1 bi.2, Option.map_some]
        rw [hx ⟨x.op, 0, x.int, ⟨#[]⟩⟩ rfl (by rcases h3 with h | h | h; omega; omega; exact h.symm) rfl (by rcases h5 with h | h | h; omega; omega; exact h.symm)]
      · refine ⟨quoteN (bs x.text), by rw [line_app, e]; rfl, ?_⟩
        unfold putN
        have hu := unquote_quote [] (bs x.text) [] (bs_bytes _)
        simp only [List.nil_append, List.append_nil, List.length_nil] at hu
        have hu' : unquoteN (quoteN (bs x.text)) 0 = (bs x.text, ((0 + (quoteN (bs x.text)).length : Nat) : Int), 0) := hu
        simp only [e, hu']
        rw [if_pos ⟨trivial, by simp⟩, txt_bs]
        rw [hx ⟨x.op, 0, 0, x.text⟩ rfl (by rcases h3 with h | h | h; omega; omega; exact h.symm) (by rcases h4 with h | h; omega; exact h.symm) rfl]
      · refine ⟨bs x.text, by rw [line_app, e]; rfl, ?_⟩
        unfold putN
        simp only [e]
        rw [txt_bs, hx ⟨x.op, 0, 0, x.text⟩ rfl (by rcases h3 with h | h | h; omega; omega; exact h.symm) (by rcases h4 with h | h; omega; exact h.symm) rfl]
      · refine ⟨showN x.arg, by rw [line_app, e]; rfl, ?_⟩
        unfold putN
        simp only [e, intN_show ba.1 ba.2, Option.map_some]
        rw [hx ⟨x.op, x.arg, 0, ⟨#[]⟩⟩ rfl rfl (by rcases h4 with h | h; omega; exact h.symm) (by rcases h5 with h | h | h; omega; omega; exact h.symm)]
    obtain ⟨c1, c2⟩ := cut_at rest hw32
    have c3 : (bs (wordC x.op) ++ 32 :: rest).contains 32 = true := by rw [List.contains_iff_mem]; simp
    unfold readN
    rw [hl, c1, c2, c3, txt_bs, op_of _ h1 h2, if_pos ⟨h1, ⟨fun _ => h0, fun _ => rfl⟩⟩, hp]
    simp [h]
theorem lines_text : ∀ (c : List Ins) (f : Nat) (out : List Ins), (∀ x ∈ c, x.ok ∧ plainN x = true) → (textC c).length ≤ f → linesN f (textC c) out = .inl (out ++ c)
  | [], f, out, h, hf => by cases f <;> simp [linesN, textC]
  | x :: c, f, out, h, hf => by
    have e : textC (x :: c) = lineC x ++ 10 :: textC c := by simp [textC]
    rw [e] at hf ⊢
    obtain ⟨g, hg⟩ : ∃ g, f = g + 1 := ⟨f - 1, by simp at hf; omega⟩
    subst hg
    have hx := h x (by simp)
    obtain ⟨c1, c2⟩ := cut_at (c := 10) (a := lineC x) (textC c) (line_no10 hx.2)
    have c3 : (lineC x ++ 10 :: textC c).contains 10 = true := by rw [List.contains_iff_mem]; simp
    unfold linesN
    rw [if_neg (by simp), c1, read_line hx.1 hx.2]
    simp only [c3, if_true, c2]
    rw [lines_text c g _ (fun y hy => h y (by simp [hy])) (by simp at hf; omega)]
    simp
theorem go_plain : ∀ (c : List Ins) (m i : Nat) (l : List Pl), (goN c m i l).2 = 0 → ∀ j x, i ≤ j → j < i + m → c[j]? = some x → plainN x = true
  | c, 0, i, l, h, j, x, h1, h2, hx => by omega
  | c, m + 1, i, l, h, j, x, h1, h2, hx => by
    unfold goN at h
    cases e : stepN c l i with
    | none => rw [e] at h; simp at h
    | some l' =>
      rw [e] at h
      by_cases hj : j = i
      · subst hj
        unfold stepN at e
        rw [hx] at e
        split at e
        · next h3 h4 =>
          injection h4 with h4
          subst h4
          split at e
          · next h5 => exact h5.2
          · cases e
        · cases e
      · exact go_plain c m (i + 1) l' h j x (by omega) (by omega) hx
theorem right_all {c : List Ins} (h : (rightC c).2 = 0) : ∀ x ∈ c, plainN x = true := by
  intro x hx
  obtain ⟨j, hj⟩ := List.mem_iff_getElem?.1 hx
  have hl := (List.getElem?_eq_some_iff.1 hj).1
  unfold rightC at h
  split at h
  · cases h
  · exact go_plain c c.length 0 _ h j x (by omega) (by omega) hj
theorem parse_text {c : List Ins} (hok : ∀ x ∈ c, x.ok) (hr : (rightC c).2 = 0) (hl : (textC c).length ≤ 1048576) : parseC (textC c) = (c, 0, 0) := by
  unfold parseC
  rw [if_neg (by omega), lines_text c _ [] (fun x hx => ⟨hok x hx, right_all hr x hx⟩) zL]
  simp only [List.nil_append, hr, ne_eq, not_true, if_false]
theorem read_back {l : List Nat} {x : Ins} (hb : Bytes l) (h : readN l = some x) : plainN x = true ∧ lineC x = l := by
  by_cases h1 : 1 ≤ opN (txt (aheadC 32 l))
  · have hl := read_law hb h1
    by_cases hp : plainN (laysN (opN (txt (aheadC 32 l))) (behindC 32 l)) = true ∧ lineC (laysN (opN (txt (aheadC 32 l))) (behindC 32 l)) = l
    · rw [hl.1 hp] at h
      injection h with h
      rw [← h]
      exact hp
    · rw [hl.2 hp] at h
      cases h
  · unfold readN at h
    rw [if_neg (fun h2 => h1 h2.1)] at h
    cases h
theorem lines_back : ∀ (f : Nat) (l : List Nat) (out c : List Ins), Bytes l → l.length ≤ f → linesN f l out = .inl c → textC out ++ l = textC c
  | 0, l, out, c, hb, hf, h => by
    have : l = [] := List.eq_nil_of_length_eq_zero (by omega)
    subst this
    unfold linesN at h
    injection h with h
    rw [h, List.append_nil]
  | f + 1, l, out, c, hb, hf, h => by
    unfold linesN at h
    by_cases hl : l = []
    · rw [if_pos hl] at h
      injection h with h
      rw [h, hl, List.append_nil]
    · rw [if_neg hl] at h
      cases e : readN (aheadC 10 l) with
      | none => rw [e] at h; cases h
      | some x =>
        rw [e] at h
        by_cases hc : l.contains 10 = true
        · simp only [hc, if_true] at h
          have hbb := ahead_bytes (c := 10) hb
          have ih := lines_back f (behindC 10 l) (out ++ [x]) c hbb.2 (by have := (ahead_len 10 l).2.2 hl; omega) h
          rw [← ih]
          have e2 : textC (out ++ [x]) = textC out ++ (lineC x ++ [10]) := by simp [textC]
          rw [e2, (read_back hbb.1 e).2]
          conv => lhs; rw [ahead_behind hc]
          simp
        · simp only [hc] at h
          cases h
theorem parse_back {l : List Nat} {c : List Ins} {n z : Nat} (hb : Bytes l) (h : parseC l = (c, n, z)) : (z ≠ 0 → c = []) ∧ (z = 0 → n = 0 ∧ (rightC c).2 = 0 ∧ textC c = l ∧ l.length ≤ 1048576) := by
  unfold parseC at h
  by_cases hl : 1048576 < l.length
  · rw [if_pos hl] at h
    injection h with h1 h2
    injection h2 with h2 h3
    exact ⟨fun _ => h1.symm, fun hz => by omega⟩
  · rw [if_neg hl] at h
    cases e : linesN l.length l [] with
    | inr k =>
      rw [e] at h
      injection h with h1 h2
      injection h2 with h2 h3
      exact ⟨fun _ => h1.symm, fun hz => by omega⟩
    | inl d =>
      rw [e] at h
      simp only at h
      by_cases hr : (rightC d).2 ≠ 0
      · rw [if_pos hr] at h
        injection h with h1 h2
        injection h2 with h2 h3
        exact ⟨fun _ => h1.symm, fun hz => by omega⟩
      · rw [if_neg hr] at h
        injection h with h1 h2
        injection h2 with h2 h3
        subst h1
        have := lines_back _ _ _ _ hb zL e
        exact ⟨fun hz => absurd h3.symm hz, fun _ => ⟨h2.symm, by omega, by simpa [textC] using this.symm, by omega⟩⟩
theorem right_zero {c : List Ins} (h : (rightC c).2 = 0) : (rightC c).1 = 0 := by
  have key : ∀ (m i : Nat) (l : List Pl), (goN c m i l).2 = 0 → (goN c m i l).1 = 0 := by
    intro m
    induction m with
    | zero =>
      intro i l h
      unfold goN endN at h ⊢
      split at h
      · split at h
        · next h1 => simp [h1]
        · cases h
      · cases h
    | succ m ih =>
      intro i l h
      unfold goN at h ⊢
      split at h
      · exact ih _ _ h
      · cases h
  unfold rightC at h ⊢
  split at h
  · cases h
  · next h1 => rw [if_neg h1]; exact key _ _ _ h
theorem right_in (c : List Ins) : (rightC c).1 ≤ c.length := by
  have key : ∀ (m i : Nat) (l : List Pl), i + m ≤ c.length → (goN c m i l).1 ≤ c.length := by
    intro m
    induction m with
    | zero =>
      intro i l h
      unfold goN endN
      split
      · split
        · exact Nat.zero_le _
        · exact h
      · exact h
    | succ m ih =>
      intro i l h
      unfold goN
      split
      · exact ih _ _ (by omega)
      · show i ≤ c.length; omega
  unfold rightC
  split
  · exact Nat.zero_le _
  · exact key _ _ _ (by omega)
end Go.Proofs.YtdkoafmgenbkbaaGreatDoor
