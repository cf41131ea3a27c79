/- The scanner's steps: what stands behind a token says nothing of it; where a text is refused. -/
import Derived.Test.YtlenenfgedgmhaaDoorCut
namespace Go.Proofs.YtlenenfgedgmhaaDoor
set_option linter.unusedSimpArgs false
set_option linter.unusedVariables false

/-- what may stand behind a token in the place of what stood there -/
def Next (z y : List Nat) : Prop := y.head? = z.head? ∨ y.head? = none ∨ y.head? = some 32 ∨ y.head? = some 10 ∨ y.head? = some 41
theorem Next.of_blank {z y : List Nat} (h : y.head? = none ∨ y.head? = some 32 ∨ y.head? = some 10) : Next z y := by
  rcases h with h | h | h
  · exact .inr (.inl h)
  · exact .inr (.inr (.inl h))
  · exact .inr (.inr (.inr (.inl h)))
/-- one token, read: the token or none, and how many bytes -/
def tokR (r : List Nat) : Option (Nat × List Nat × Int) × Nat :=
  if r.head? = some 34 then ((qR (r.drop 1)).1.map (fun s => (2, s, 0)), (qR (r.drop 1)).2 + 1) else stepP r

theorem num_mono : ∀ (r : List Nat) (j n : Nat), j ≤ (numScan r j n).2.1 ∧ (numScan r j n).2.1 ≤ j + r.length
  | [], j, n => by simp [numScan]
  | c :: r, j, n => by
    rw [numScan]
    split
    · split
      · simp
      · have := num_mono r (j + 1) (10 * n + (c - 48))
        simp only [List.length_cons]
        omega
    · simp
theorem num_local : ∀ (r : List Nat) (j n : Nat) (y : List Nat), (numScan r j n).2.2 = true → Next (r.drop ((numScan r j n).2.1 - j)) y → numScan (r.take ((numScan r j n).2.1 - j) ++ y) j n = numScan r j n
  | [], j, n, y, h, hy => by
    simp only [numScan, Nat.sub_self, List.take_nil, List.nil_append]
    simp only [numScan, Nat.sub_self, List.drop_nil, Next] at hy
    cases y with
    | nil => rfl
    | cons a y =>
      have ha : a = 32 ∨ a = 10 ∨ a = 41 := by simpa using hy
      rw [numScan, if_neg (by omega)]
      rcases ha with rfl | rfl | rfl <;> rfl
  | c :: r, j, n, y, h, hy => by
    by_cases hd : 48 ≤ c ∧ c ≤ 57
    · by_cases hb : (0 < j ∧ n = 0) ∨ (9223372036854775807 - (c - 48)) / 10 < n
      · rw [numScan, if_pos hd, if_pos hb] at h
        cases h
      · have e : numScan (c :: r) j n = numScan r (j + 1) (10 * n + (c - 48)) := by rw [numScan, if_pos hd, if_neg hb]
        rw [e] at h hy ⊢
        have hm := num_mono r (j + 1) (10 * n + (c - 48))
        obtain ⟨m, hmm⟩ : ∃ m, (numScan r (j + 1) (10 * n + (c - 48))).2.1 - j = m + 1 := ⟨(numScan r (j + 1) (10 * n + (c - 48))).2.1 - j - 1, by omega⟩
        have hm2 : (numScan r (j + 1) (10 * n + (c - 48))).2.1 - (j + 1) = m := by omega
        rw [hmm] at hy ⊢
        rw [List.drop_succ_cons] at hy
        rw [List.take_succ_cons, List.cons_append, numScan, if_pos hd, if_neg hb]
        have := num_local r (j + 1) (10 * n + (c - 48)) y h (by rw [hm2]; exact hy)
        rw [hm2] at this
        exact this
    · have e : numScan (c :: r) j n = (n, j, !furtherN c) := by rw [numScan, if_neg hd]
      rw [e] at h hy ⊢
      simp only [Nat.sub_self, List.take_zero, List.nil_append, List.drop_zero] at hy h ⊢
      cases y with
      | nil => rw [numScan]; rw [h]
      | cons a y =>
        simp only [Next, List.head?_cons] at hy
        have ha : a = c ∨ a = 32 ∨ a = 10 ∨ a = 41 := by simpa using hy
        rcases ha with rfl | rfl | rfl | rfl
        · rw [numScan, if_neg hd]
        · rw [numScan, if_neg (by omega), h]; rfl
        · rw [numScan, if_neg (by omega), h]; rfl
        · rw [numScan, if_neg (by omega), h]; rfl
theorem num_false_app : ∀ (r : List Nat) (j n : Nat) (y : List Nat), (numScan r j n).2.2 = false → numScan (r ++ y) j n = numScan r j n
  | [], j, n, y, h => by simp [numScan] at h
  | c :: r, j, n, y, h => by
    rw [List.cons_append]
    by_cases hd : 48 ≤ c ∧ c ≤ 57
    · by_cases hb : (0 < j ∧ n = 0) ∨ (9223372036854775807 - (c - 48)) / 10 < n
      · rw [numScan, numScan, if_pos hd, if_pos hd, if_pos hb, if_pos hb]
      · rw [numScan, if_pos hd, if_neg hb] at h
        rw [numScan, numScan, if_pos hd, if_pos hd, if_neg hb, if_neg hb]
        exact num_false_app r _ _ y h
    · rw [numScan, numScan, if_neg hd, if_neg hd]
theorem num_cut : ∀ (r : List Nat) (j n : Nat), (numScan (r.take ((numScan r j n).2.1 - j)) j n).2 = ((numScan r j n).2.1, true)
  | [], j, n => by simp [numScan]
  | c :: r, j, n => by
    by_cases hd : 48 ≤ c ∧ c ≤ 57
    · by_cases hb : (0 < j ∧ n = 0) ∨ (9223372036854775807 - (c - 48)) / 10 < n
      · have e : numScan (c :: r) j n = (0, j, false) := by rw [numScan, if_pos hd, if_pos hb]
        rw [e]
        simp [numScan]
      · have e : numScan (c :: r) j n = numScan r (j + 1) (10 * n + (c - 48)) := by rw [numScan, if_pos hd, if_neg hb]
        rw [e]
        have hm := num_mono r (j + 1) (10 * n + (c - 48))
        obtain ⟨m, hmm⟩ : ∃ m, (numScan r (j + 1) (10 * n + (c - 48))).2.1 - j = m + 1 := ⟨(numScan r (j + 1) (10 * n + (c - 48))).2.1 - j - 1, by omega⟩
        have hm2 : (numScan r (j + 1) (10 * n + (c - 48))).2.1 - (j + 1) = m := by omega
        have := num_cut r (j + 1) (10 * n + (c - 48))
        rw [hm2] at this
        rw [hmm, List.take_succ_cons, numScan, if_pos hd, if_neg hb]
        exact this
    · have e : numScan (c :: r) j n = (n, j, !furtherN c) := by rw [numScan, if_neg hd]
      rw [e]
      simp [numScan]
theorem val_ge : ∀ (D : List Nat) (a : Nat), a ≤ val a D
  | [], a => Nat.le_refl _
  | c :: D, a => by
    have := val_ge D (10 * a + (c - 48))
    show a ≤ val (10 * a + (c - 48)) D
    omega
theorem num_digits : ∀ (D : List Nat) (j n : Nat) (y : List Nat), Digits D → val n D ≤ 9223372036854775807 → (0 < j → n = 0 → D = []) → (j = 0 → n = 0 ∧ (D.head? = some 48 → D.length = 1)) → (y.head? = none ∨ y.head? = some 32 ∨ y.head? = some 10) → numScan (D ++ y) j n = (val n D, j + D.length, true)
  | [], j, n, y, _, _, _, _, hy => by
    rw [List.nil_append]
    cases y with
    | nil => rfl
    | cons a y =>
      have ha : a = 32 ∨ a = 10 := by simpa using hy
      rw [numScan, if_neg (by omega)]
      rcases ha with rfl | rfl <;> rfl
  | c :: D, j, n, y, hD, hv, h1, h2, hy => by
    have hc := hD c (by simp)
    have hv' : val (10 * n + (c - 48)) D ≤ 9223372036854775807 := hv
    have hg := val_ge D (10 * n + (c - 48))
    rw [List.cons_append, numScan, if_pos hc, if_neg]
    · rw [num_digits D (j + 1) (10 * n + (c - 48)) y (fun x hx => hD x (List.mem_cons_of_mem _ hx)) hv' ?_ (fun h => by omega) hy]
      · have e : j + 1 + D.length = j + (c :: D).length := by rw [List.length_cons]; omega
        rw [e]
        rfl
      · intro _ h0
        rcases Nat.eq_zero_or_pos j with rfl | hj
        · have := (h2 rfl).2
          simp only [List.head?_cons, List.length_cons] at this
          exact List.eq_nil_of_length_eq_zero (by have := this (by congr 1; omega); omega)
        · exfalso
          have hn : n = 0 := by omega
          have := h1 hj hn
          cases this
    · rintro (⟨hj, hn⟩ | hb)
      · have := h1 hj hn
        cases this
      · omega

theorem tw_app {p : Nat → Bool} : ∀ (l y : List Nat), l.all p = true → (∀ c, y.head? = some c → p c = false) → (l ++ y).takeWhile p = l
  | [], [], _, _ => rfl
  | [], c :: y, _, h => by rw [List.nil_append, List.takeWhile_cons, if_neg (by rw [h c rfl]; simp)]
  | a :: l, y, h, hy => by
    rw [List.all_cons, Bool.and_eq_true] at h
    rw [List.cons_append, List.takeWhile_cons, if_pos h.1, tw_app l y h.2 hy]
theorem tw_more {p : Nat → Bool} : ∀ (l y : List Nat), (l.takeWhile p).length ≤ ((l ++ y).takeWhile p).length
  | [], y => by simp
  | a :: l, y => by
    rw [List.cons_append, List.takeWhile_cons, List.takeWhile_cons]
    split
    · simp only [List.length_cons]; have := tw_more (p := p) l y; omega
    · simp
theorem blank_not_further {c : Nat} (h : c = 32 ∨ c = 10) : furtherN c = false := by rcases h with rfl | rfl <;> rfl
theorem Next.not_further {z y : List Nat} (h : Next z y) (hz : ∀ c, z.head? = some c → furtherN c = false) : ∀ c, y.head? = some c → furtherN c = false := by
  intro c hc
  rcases h with h | h | h | h | h
  · exact hz c (by rw [← h]; exact hc)
  · rw [h] at hc; cases hc
  · rw [h] at hc; injection hc with hc; exact blank_not_further (Or.inl hc.symm)
  · rw [h] at hc; injection hc with hc; exact blank_not_further (Or.inr hc.symm)
  · rw [h] at hc; injection hc with hc; rw [← hc]; rfl
/-- the marks: one that has been found is found whatever stands behind it -/
theorem mark_local {m z y : List Nat} (h : markN (m ++ z) = (m, m.length)) (hm : m ∈ marksL) (hy : Next z y) : markN (m ++ y) = (m, m.length) := by
  have hz : ∀ d, y.head? = some d → (z.head? = some d ∨ d = 32 ∨ d = 10 ∨ d = 41) := by
    intro d hd
    rcases hy with h | h | h | h | h <;> rw [h] at hd
    · exact Or.inl hd
    · cases hd
    · injection hd with hd; exact Or.inr (Or.inl hd.symm)
    · injection hd with hd; exact Or.inr (Or.inr (Or.inl hd.symm))
    · injection hd with hd; exact Or.inr (Or.inr (Or.inr hd.symm))
  simp only [marksL, List.mem_cons, List.not_mem_nil, or_false] at hm
  rcases hm with rfl | rfl | rfl | rfl | rfl | rfl | rfl | rfl | rfl | rfl | rfl | rfl | rfl | rfl | rfl | rfl
  case inr.inr.inr.inr.inr.inr.inr.inr.inr.inr.inr.inr.inl =>
    cases y with
    | nil => decide
    | cons d y =>
      have hd : d ≠ 62 := by
        rcases hz d rfl with hh | hh | hh | hh
        · cases z with
          | nil => cases hh
          | cons b z =>
            injection hh with hh
            subst hh
            rintro rfl
            simp [markN, marksL, List.find?, List.isPrefixOf] at h
        · omega
        · omega
        · omega
      have hb : (62 == d) = false := by rw [beq_eq_false_iff_ne]; exact Ne.symm hd
      simp [markN, marksL, List.find?, List.isPrefixOf, hb]
  case inr.inr.inr.inr.inr.inr.inr.inr.inr.inr.inr.inr.inr.inr.inl =>
    cases y with
    | nil => decide
    | cons d y =>
      have hd : d ≠ 61 := by
        rcases hz d rfl with hh | hh | hh | hh
        · cases z with
          | nil => cases hh
          | cons b z =>
            injection hh with hh
            subst hh
            rintro rfl
            simp [markN, marksL, List.find?, List.isPrefixOf] at h
        · omega
        · omega
        · omega
      have hb : (61 == d) = false := by rw [beq_eq_false_iff_ne]; exact Ne.symm hd
      simp [markN, marksL, List.find?, List.isPrefixOf, hb]
  all_goals simp [markN, marksL, List.find?, List.isPrefixOf]
theorem prefix_of : ∀ (m r : List Nat), m.isPrefixOf r = true → ∃ z, r = m ++ z
  | [], r, _ => ⟨r, rfl⟩
  | a :: m, [], h => by simp [List.isPrefixOf] at h
  | a :: m, b :: r, h => by
    rw [List.isPrefixOf, Bool.and_eq_true] at h
    obtain ⟨z, hz⟩ := prefix_of m r h.2
    have : a = b := by simpa using h.1
    subst this
    exact ⟨z, by rw [hz]; rfl⟩
theorem mark_found {r : List Nat} (h : (markN r).1 ≠ []) : (markN r).1 ∈ marksL ∧ (markN r).2 = (markN r).1.length ∧ ∃ z, r = (markN r).1 ++ z := by
  cases hf : marksL.find? (fun m => m.isPrefixOf r) with
  | some m =>
    have hM : markN r = (m, m.length) := by unfold markN; rw [hf]
    have h1 := List.find?_some hf
    have h2 := List.mem_of_find?_eq_some hf
    rw [hM]
    refine ⟨h2, rfl, ?_⟩
    exact prefix_of _ _ h1
  | none =>
    have hM : markN r = if r.head? = some 33 ∨ r.head? = some 61 then ([], 1) else ([], 0) := by unfold markN; rw [hf]
    rw [hM] at h
    split at h <;> exact absurd rfl h
theorem mark_none {r : List Nat} (h : (markN r).1 = []) : (markN r).2 = 0 ∨ ((markN r).2 = 1 ∧ (r.head? = some 33 ∨ r.head? = some 61)) := by
  cases hf : marksL.find? (fun m => m.isPrefixOf r) with
  | some m =>
    have hM : markN r = (m, m.length) := by unfold markN; rw [hf]
    have h2 := List.mem_of_find?_eq_some hf
    rw [hM] at h
    have h' : m = [] := h
    subst h'
    exact absurd h2 (by decide)
  | none =>
    have hM : markN r = if r.head? = some 33 ∨ r.head? = some 61 then ([], 1) else ([], 0) := by unfold markN; rw [hf]
    rw [hM]
    split
    · rename_i hh; exact Or.inr ⟨rfl, hh⟩
    · exact Or.inl rfl
theorem mark_one {c : Nat} (h : c = 33 ∨ c = 61) (t : List Nat) : 1 ≤ (markN (c :: t)).2 := by
  unfold markN
  split
  · rename_i m hm
    have h2 := List.mem_of_find?_eq_some hm
    have : ∀ m ∈ marksL, 1 ≤ m.length := by decide
    exact this m h2
  · rw [if_pos (by simpa using h)]
    exact Nat.le_refl _

theorem stepP_digit {c : Nat} (h : 48 ≤ c ∧ c ≤ 57) (t : List Nat) : stepP (c :: t) = if (numScan (c :: t) 0 0).2.2 then (some (1, [], ((numScan (c :: t) 0 0).1 : Int)), (numScan (c :: t) 0 0).2.1) else (none, (numScan (c :: t) 0 0).2.1) := by
  simp only [stepP]; rw [if_pos h]
theorem stepP_letter {c : Nat} (h : letterN c = true) (t : List Nat) : stepP (c :: t) = if ((c :: t).takeWhile furtherN).length ≤ 32 then (some (if (c :: t).takeWhile furtherN ∈ wordsL then 4 else 3, (c :: t).takeWhile furtherN, 0), ((c :: t).takeWhile furtherN).length) else (none, 32) := by
  have := letter_cases h
  simp only [stepP]; rw [if_neg (by omega), if_pos h]
theorem stepP_mark {c : Nat} (h1 : ¬ (48 ≤ c ∧ c ≤ 57)) (h2 : ¬ letterN c = true) (t : List Nat) : stepP (c :: t) = if (markN (c :: t)).1 = [] then (none, (markN (c :: t)).2) else (some (5, (markN (c :: t)).1, 0), (markN (c :: t)).2) := by
  simp only [stepP]; rw [if_neg h1, if_neg h2]
theorem tokR_quote (t : List Nat) : tokR (34 :: t) = ((qR t).1.map (fun s => (2, s, 0)), (qR t).2 + 1) := by
  unfold tokR
  rw [if_pos (show (34 :: t).head? = some 34 from rfl)]
  rfl
theorem tokR_step {c : Nat} (h : c ≠ 34) (t : List Nat) : tokR (c :: t) = stepP (c :: t) := by
  unfold tokR
  rw [if_neg (by simpa using h)]
theorem num_pos {c : Nat} (h : 48 ≤ c ∧ c ≤ 57) (t : List Nat) : 1 ≤ (numScan (c :: t) 0 0).2.1 := by
  rw [numScan, if_pos h, if_neg (by omega)]
  exact (num_mono t 1 _).1
/-- what a token is, and how long -/
theorem tok_some {r : List Nat} (hr : Bytes r) {k n : Nat} {s : List Nat} {v : Int} (h : tokR r = (some (k, s, v), n)) : 1 ≤ n ∧ n ≤ r.length ∧ Bytes s ∧ k < 6 ∧ -9223372036854775808 ≤ v ∧ v ≤ 9223372036854775807 := by
  cases r with
  | nil => cases h
  | cons c t =>
    by_cases h34 : c = 34
    · subst h34
      rw [tokR_quote] at h
      have ht : Bytes t := fun x hx => hr x (List.mem_cons_of_mem _ hx)
      cases hq : qR t with
      | mk a m =>
        rw [hq] at h
        cases a with
        | none => cases h
        | some s' =>
          cases h
          obtain ⟨h1, h2, h3, _⟩ := qR_bound t.length t (Nat.le_refl _) ht _ _ hq
          exact ⟨by omega, by rw [List.length_cons]; omega, h3, by omega, by omega, by omega⟩
    · rw [tokR_step h34] at h
      exact step_some hr h
theorem tok_local {r y : List Nat} (hr : Bytes r) (hy : Bytes y) {t : Nat × List Nat × Int} {n : Nat} (h : tokR r = (some t, n)) (hn : Next (r.drop n) y) : tokR (r.take n ++ y) = (some t, n) := by
  obtain ⟨k, s, v⟩ := t
  have hpos := (tok_some hr h).1
  cases r with
  | nil => cases h
  | cons c t =>
    obtain ⟨n, rfl⟩ : ∃ m, n = m + 1 := ⟨n - 1, by omega⟩
    by_cases h34 : c = 34
    · subst h34
      rw [tokR_quote] at h
      have ht : Bytes t := fun x hx => hr x (List.mem_cons_of_mem _ hx)
      cases hq : qR t with
      | mk a m =>
        rw [hq] at h
        cases a with
        | none => cases h
        | some s' =>
          cases h
          rw [List.take_succ_cons, List.cons_append, tokR_quote, qR_local ht hq y hy]
          rfl
    · rw [tokR_step h34] at h
      rw [List.take_succ_cons, List.cons_append, tokR_step h34]
      rw [List.drop_succ_cons] at hn
      by_cases hd : 48 ≤ c ∧ c ≤ 57
      · rw [stepP_digit hd] at h ⊢
        split at h
        · rename_i hb
          simp only [Prod.mk.injEq] at h
          obtain ⟨h1, h2⟩ := h
          have hl := num_local (c :: t) 0 0 y hb (by rw [Nat.sub_zero, h2, List.drop_succ_cons]; exact hn)
          rw [Nat.sub_zero, h2, List.take_succ_cons, List.cons_append] at hl
          rw [hl, if_pos hb, h2, h1]
        · cases h
      · by_cases hlet : letterN c = true
        · rw [stepP_letter hlet] at h ⊢
          split at h
          · rename_i h32
            simp only [Prod.mk.injEq] at h
            obtain ⟨h1, h2⟩ := h
            have htk := take_of_takeWhile (p := furtherN) (c :: t)
            rw [h2, List.take_succ_cons] at htk
            have hall : (c :: t.take n).all furtherN = true := by rw [htk]; exact takeWhile_all _
            have hrun : ((c :: (t.take n ++ y)).takeWhile furtherN) = (c :: t).takeWhile furtherN := by
              have := tw_app (p := furtherN) (c :: t.take n) y hall (hn.not_further (fun d hd' => takeWhile_next (p := furtherN) (c :: t) d (by rw [h2, List.getElem?_cons_succ, ← hd', List.head?_drop])))
              rw [List.cons_append] at this
              rw [this, htk]
            rw [hrun, if_pos h32, h1, h2]
          · cases h
        · rw [stepP_mark hd hlet] at h ⊢
          split at h
          · cases h
          · rename_i hne
            simp only [Prod.mk.injEq] at h
            obtain ⟨h1, h2⟩ := h
            obtain ⟨m1, m2, z, m3⟩ := mark_found hne
            have hM : markN ((markN (c :: t)).1 ++ z) = ((markN (c :: t)).1, (markN (c :: t)).1.length) := by
              rw [← m3, ← m2]
            have hz : z = t.drop n := by
              have e : (c :: t).drop (n + 1) = z := by
                conv => lhs; rw [m3]
                rw [← h2, m2, List.drop_left]
              rw [← e, List.drop_succ_cons]
            have hm := mark_local hM m1 (y := y) (by rw [hz]; exact hn)
            have e2 : c :: (t.take n ++ y) = (markN (c :: t)).1 ++ y := by
              have e : (c :: t).take (n + 1) = (markN (c :: t)).1 := by
                conv => lhs; rw [m3]
                rw [← h2, m2, List.take_left]
              rw [← e, List.take_succ_cons, List.cons_append]
            rw [e2, hm, if_neg hne, h1]
            simp only
            rw [← m2, h2]
/-- a text that begins with no token: with a blank and more behind it, it is refused no sooner -/
theorem tok_more {r : List Nat} (hr : Bytes r) (h0 : r ≠ []) {n : Nat} (h : tokR r = (none, n)) {y : List Nat} (hy : Bytes y) (hy34 : y.head? ≠ some 34) : n ≤ (tokR (r ++ y)).2 := by
  cases r with
  | nil => exact absurd rfl h0
  | cons c t =>
    by_cases h34 : c = 34
    · subst h34
      have ht : Bytes t := fun x hx => hr x (List.mem_cons_of_mem _ hx)
      rw [tokR_quote] at h
      rw [List.cons_append, tokR_quote]
      cases hq : qR t with
      | mk a m =>
        rw [hq] at h
        cases a with
        | some s' => cases h
        | none =>
          cases h
          have := qR_more t.length t (Nat.le_refl _) ht m hq y hy hy34
          show m + 1 ≤ (qR (t ++ y)).2 + 1
          omega
    · rw [tokR_step h34] at h
      rw [List.cons_append, tokR_step h34]
      by_cases hd : 48 ≤ c ∧ c ≤ 57
      · rw [stepP_digit hd] at h ⊢
        split at h
        · cases h
        · rename_i hb
          have hb' : (numScan (c :: t) 0 0).2.2 = false := by simpa using hb
          have := num_false_app (c :: t) 0 0 y hb'
          rw [List.cons_append] at this
          rw [this, if_neg hb]
          injection h with _ h
          omega
      · by_cases hlet : letterN c = true
        · rw [stepP_letter hlet] at h ⊢
          split at h
          · cases h
          · rename_i h32
            have := tw_more (p := furtherN) (c :: t) y
            rw [List.cons_append] at this
            rw [if_neg (by omega)]
            injection h with _ h
            omega
        · rw [stepP_mark hd hlet] at h ⊢
          split at h
          · rename_i hm0
            injection h with _ h
            subst h
            rcases mark_none hm0 with h1 | ⟨h1, h2⟩
            · omega
            · have hc : c = 33 ∨ c = 61 := by simpa using h2
              have := mark_one hc (t ++ y)
              split <;> (show (markN (c :: t)).2 ≤ (markN (c :: (t ++ y))).2; omega)
          · cases h
def endsL : List (List Nat) := [[], [34], [110, 34], [102, 102, 34], [102, 34], [61]]
/-- cut at the place up to which it was right -/
theorem tok_cut {r : List Nat} (hr : Bytes r) (h0 : r ≠ []) {n : Nat} (h : tokR r = (none, n)) : n ≤ r.length ∧ (n = 0 ∨ (∃ t, tokR (r.take n) = (some t, n)) ∨ tokR (r.take n) = (none, n)) ∧ (n = 0 ∨ ∃ x ∈ endsL, ∃ t, tokR (r.take n ++ x) = (some t, n + x.length)) := by
  cases r with
  | nil => exact absurd rfl h0
  | cons c t =>
    by_cases h34 : c = 34
    · subst h34
      have ht : Bytes t := fun x hx => hr x (List.mem_cons_of_mem _ hx)
      rw [tokR_quote] at h
      cases hq : qR t with
      | mk a m =>
        rw [hq] at h
        cases a with
        | some s' => cases h
        | none =>
          cases h
          obtain ⟨h1, h2, x, hx, s, h3⟩ := qR_cut t.length t (Nat.le_refl _) ht m hq
          refine ⟨by rw [List.length_cons]; show m + 1 ≤ _; omega, Or.inr (Or.inr ?_), Or.inr ⟨x, ?_, (2, s, 0), ?_⟩⟩
          · show tokR ((34 :: t).take (m + 1)) = (none, m + 1)
            rw [List.take_succ_cons, tokR_quote, h2]
            rfl
          · unfold endsL
            simp only [List.mem_cons, List.not_mem_nil, or_false] at hx ⊢
            rcases hx with rfl | rfl | rfl | rfl <;> simp
          · show tokR ((34 :: t).take (m + 1) ++ x) = (some (2, s, 0), m + 1 + x.length)
            rw [List.take_succ_cons, List.cons_append, tokR_quote, h3]
            simp
            omega
    · rw [tokR_step h34] at h
      by_cases hd : 48 ≤ c ∧ c ≤ 57
      · rw [stepP_digit hd] at h
        split at h
        · cases h
        · injection h with _ h
          have hp := num_pos hd t
          have hm := (num_mono (c :: t) 0 0).2
          have hc := num_cut (c :: t) 0 0
          rw [Nat.sub_zero, h] at hc
          rw [h] at hp
          obtain ⟨m, rfl⟩ : ∃ m, n = m + 1 := ⟨n - 1, by omega⟩
          rw [List.take_succ_cons] at hc
          have hs : tokR ((c :: t).take (m + 1)) = (some (1, [], ((numScan (c :: t.take m) 0 0).1 : Int)), m + 1) := by
            rw [List.take_succ_cons, tokR_step h34, stepP_digit hd]
            have e1 : (numScan (c :: t.take m) 0 0).2.2 = true := by rw [hc]
            have e2 : (numScan (c :: t.take m) 0 0).2.1 = m + 1 := by rw [hc]
            rw [e1, e2]
            rfl
          exact ⟨by omega, Or.inr (Or.inl ⟨_, hs⟩), Or.inr ⟨[], by simp [endsL], _, by rw [List.append_nil]; exact hs⟩⟩
      · by_cases hlet : letterN c = true
        · rw [stepP_letter hlet] at h
          split at h
          · cases h
          · rename_i h32
            injection h with _ h
            subst h
            have hle := takeWhile_le (p := furtherN) (c :: t)
            have htk := take_of_takeWhile (p := furtherN) (c :: t)
            have hall : ((c :: t).take 32).all furtherN = true := by
              have h1 := takeWhile_all (p := furtherN) (c :: t)
              rw [List.all_eq_true] at h1 ⊢
              intro x hx
              refine h1 x ?_
              have e : (c :: t).take 32 = ((c :: t).takeWhile furtherN).take 32 := by rw [← htk, List.take_take, Nat.min_eq_left (by omega)]
              rw [e] at hx
              exact List.mem_of_mem_take hx
            have hrun := tw_app (p := furtherN) ((c :: t).take 32) [] hall (fun _ h => by cases h)
            rw [List.append_nil] at hrun
            have hl : ((c :: t).take 32).length = 32 := by rw [List.length_take]; omega
            have hs : tokR ((c :: t).take 32) = (some (if (c :: t).take 32 ∈ wordsL then 4 else 3, (c :: t).take 32, 0), 32) := by
              rw [List.take_succ_cons] at hrun hl ⊢
              rw [tokR_step h34, stepP_letter hlet, hrun, if_pos (by omega), hl]
            exact ⟨by omega, Or.inr (Or.inl ⟨_, hs⟩), Or.inr ⟨[], by simp [endsL], _, by rw [List.append_nil]; exact hs⟩⟩
        · rw [stepP_mark hd hlet] at h
          split at h
          · rename_i hm0
            injection h with _ h
            subst h
            rcases mark_none hm0 with h1 | ⟨h1, h2⟩
            · rw [h1]
              exact ⟨Nat.zero_le _, Or.inl rfl, Or.inl rfl⟩
            · have hc : c = 33 ∨ c = 61 := by simpa using h2
              rw [h1]
              refine ⟨by simp, Or.inr (Or.inr ?_), Or.inr ⟨[61], by simp [endsL], ?_⟩⟩
              · rw [List.take_succ_cons, List.take_zero]
                rcases hc with rfl | rfl <;> decide
              · rw [List.take_succ_cons, List.take_zero]
                rcases hc with rfl | rfl
                · exact ⟨(5, [33, 61], 0), by decide⟩
                · exact ⟨(5, [61, 61], 0), by decide⟩
          · cases h
end Go.Proofs.YtlenenfgedgmhaaDoor
