/- - - - - - - - -/
import Derived.Test.YtpkggobhhieeoaaDoorKM4
import Derived.Test.YtpkggobhhieeoaaDoorKM3
set_option maxRecDepth 100000
set_option maxHeartbeats 32000000
set_option linter.unusedSimpArgs false
set_option linter.unusedVariables false
namespace Go.Proofs.YtpkggobhhieeoaaDoor
def Next (z y : List Nat) : Prop := y.head? = z.head? ∨ y.head? = none ∨ y.head? = some 32 ∨ y.head? = some 10 ∨ y.head? = some 41
def tokR (r : List Nat) : Option (Nat × List Nat × Int) × Nat :=
  if r.head? = some 34 then ((qR (r.drop 1)).1.map (fun s => (2, s, 0)), (qR (r.drop 1)).2 + 1) else stepP r
theorem num_mono : ∀ (r : List Nat) (j n : Nat), j ≤ (numScan r j n).2.1 ∧ (numScan r j n).2.1 ≤ j + r.length
  | [], j, n => by simp [numScan]
  | c :: r, j, n => by
    rw [numScan]
    split
    · split
      · simp
      · have := num_mono r (j + 1) (10 * n + (c - 48))
        simp only [List.length_cons]
        omega
    · simp
theorem num_local : ∀ (r : List Nat) (j n : Nat) (y : List Nat), (numScan r j n).2.2 = true → Next (r.drop ((numScan r j n).2.1 - j)) y → numScan (r.take ((numScan r j n).2.1 - j) ++ y) j n = numScan r j n
  | [], j, n, y, h, hy => by
    simp only [numScan, Nat.sub_self, List.take_nil, List.nil_append]
    simp only [numScan, Nat.sub_self, List.drop_nil, Next] at hy
    cases y with
    | nil => rfl
    | cons a y =>
      have ha : a = 32 ∨ a = 10 ∨ a = 41 := by simpa using hy
      rw [numScan, if_neg (by omega)]
      rcases ha with rfl | rfl | rfl <;> rfl
  | c :: r, j, n, y, h, hy => by
    by_cases hd : 48 ≤ c ∧ c ≤ 57
    · by_cases hb : (0 < j ∧ n = 0) ∨ (9223372036854775807 - (c - 48)) / 10 < n
      · rw [numScan, if_pos hd, if_pos hb] at h
        cases h
      · have e : numScan (c :: r) j n = numScan r (j + 1) (10 * n + (c - 48)) := by rw [numScan, if_pos hd, if_neg hb]
        rw [e] at h hy ⊢
        have hm := num_mono r (j + 1) (10 * n + (c - 48))
        obtain ⟨m, hmm⟩ : ∃ m, (numScan r (j + 1) (10 * n + (c - 48))).2.1 - j = m + 1 := ⟨(numScan r (j + 1) (10 * n + (c - 48))).2.1 - j - 1, by omega⟩
        have hm2 : (numScan r (j + 1) (10 * n + (c - 48))).2.1 - (j + 1) = m := by omega
        rw [hmm] at hy ⊢
        rw [List.drop_succ_cons] at hy
        rw [List.take_succ_cons, List.cons_append, numScan, if_pos hd, if_neg hb]
        have := num_local r (j + 1) (10 * n + (c - 48)) y h (by rw [hm2]; exact hy)
        rw [hm2] at this
        exact this
    · have e : numScan (c :: r) j n = (n, j, !furtherN c) := by rw [numScan, if_neg hd]
      rw [e] at h hy ⊢
      simp only [Nat.sub_self, List.take_zero, List.nil_append, List.drop_zero] at hy h ⊢
      cases y with
      | nil => rw [numScan]; rw [h]
      | cons a y =>
        simp only [Next, List.head?_cons] at hy
        have ha : a = c ∨ a = 32 ∨ a = 10 ∨ a = 41 := by simpa using hy
        rcases ha with rfl | rfl | rfl | rfl
        · rw [numScan, if_neg hd]
        · rw [numScan, if_neg (by omega), h]; rfl
        · rw [numScan, if_neg (by omega), h]; rfl
        · rw [numScan, if_neg (by omega), h]; rfl
theorem num_cut : ∀ (r : List Nat) (j n : Nat), (numScan (r.take ((numScan r j n).2.1 - j)) j n).2 = ((numScan r j n).2.1, true)
  | [], j, n => by simp [numScan]
  | c :: r, j, n => by
    by_cases hd : 48 ≤ c ∧ c ≤ 57
    · by_cases hb : (0 < j ∧ n = 0) ∨ (9223372036854775807 - (c - 48)) / 10 < n
      · have e : numScan (c :: r) j n = (0, j, false) := by rw [numScan, if_pos hd, if_pos hb]
        rw [e]
        simp [numScan]
      · have e : numScan (c :: r) j n = numScan r (j + 1) (10 * n + (c - 48)) := by rw [numScan, if_pos hd, if_neg hb]
        rw [e]
        have hm := num_mono r (j + 1) (10 * n + (c - 48))
        obtain ⟨m, hmm⟩ : ∃ m, (numScan r (j + 1) (10 * n + (c - 48))).2.1 - j = m + 1 := ⟨(numScan r (j + 1) (10 * n + (c - 48))).2.1 - j - 1, by omega⟩
        have hm2 : (numScan r (j + 1) (10 * n + (c - 48))).2.1 - (j + 1) = m := by omega
        have := num_cut r (j + 1) (10 * n + (c - 48))
        rw [hm2] at this
        rw [hmm, List.take_succ_cons, numScan, if_pos hd, if_neg hb]
        exact this
    · have e : numScan (c :: r) j n = (n, j, !furtherN c) := by rw [numScan, if_neg hd]
      rw [e]
      simp [numScan]
theorem tw_app {p : Nat → Bool} : ∀ (l y : List Nat), l.all p = true → (∀ c, y.head? = some c → p c = false) → (l ++ y).takeWhile p = l
  | [], [], _, _ => rfl
  | [], c :: y, _, h => by rw [List.nil_append, List.takeWhile_cons, if_neg (by rw [h c rfl]; simp)]
  | a :: l, y, h, hy => by
    rw [List.all_cons, Bool.and_eq_true] at h
    rw [List.cons_append, List.takeWhile_cons, if_pos h.1, tw_app l y h.2 hy]
theorem blank_not_further {c : Nat} (h : c = 32 ∨ c = 10) : furtherN c = false := by rcases h with rfl | rfl <;> rfl
theorem Next.not_further {z y : List Nat} (h : Next z y) (hz : ∀ c, z.head? = some c → furtherN c = false) : ∀ c, y.head? = some c → furtherN c = false := by
  intro c hc
  rcases h with h | h | h | h | h
  · exact hz c (by rw [← h]; exact hc)
  · rw [h] at hc; cases hc
  · rw [h] at hc; injection hc with hc; exact blank_not_further (Or.inl hc.symm)
  · rw [h] at hc; injection hc with hc; exact blank_not_further (Or.inr hc.symm)
  · rw [h] at hc; injection hc with hc; rw [← hc]; rfl
theorem mark_local {m z y : List Nat} (h : markN (m ++ z) = (m, m.length)) (hm : m ∈ marksL) (hy : Next z y) : markN (m ++ y) = (m, m.length) := by
  have hz : ∀ d, y.head? = some d → (z.head? = some d ∨ d = 32 ∨ d = 10 ∨ d = 41) := by
    intro d hd
    rcases hy with h | h | h | h | h <;> rw [h] at hd
    · exact Or.inl hd
    · cases hd
    · injection hd with hd; exact Or.inr (Or.inl hd.symm)
    · injection hd with hd; exact Or.inr (Or.inr (Or.inl hd.symm))
    · injection hd with hd; exact Or.inr (Or.inr (Or.inr hd.symm))
  simp only [marksL, List.mem_cons, List.not_mem_nil, or_false] at hm
  rcases hm with rfl | rfl | rfl | rfl | rfl | rfl | rfl | rfl | rfl | rfl | rfl | rfl | rfl | rfl | rfl | rfl
  case inr.inr.inr.inr.inr.inr.inr.inr.inr.inr.inr.inr.inl =>
    cases y with
    | nil => decide
    | cons d y =>
      have hd : d ≠ 62 := by
        rcases hz d rfl with hh | hh | hh | hh
        · cases z with
          | nil => cases hh
          | cons b z =>
            injection hh with hh
            subst hh
            rintro rfl
            simp [markN, marksL, List.find?, List.isPrefixOf] at h
        · omega
        · omega
        · omega
      have hb : (62 == d) = false := by rw [beq_eq_false_iff_ne]; exact Ne.symm hd
      simp [markN, marksL, List.find?, List.isPrefixOf, hb]
  case inr.inr.inr.inr.inr.inr.inr.inr.inr.inr.inr.inr.inr.inr.inl =>
    cases y with
    | nil => decide
    | cons d y =>
      have hd : d ≠ 61 := by
        rcases hz d rfl with hh | hh | hh | hh
        · cases z with
          | nil => cases hh
          | cons b z =>
            injection hh with hh
            subst hh
            rintro rfl
            simp [markN, marksL, List.find?, List.isPrefixOf] at h
        · omega
        · omega
        · omega
      have hb : (61 == d) = false := by rw [beq_eq_false_iff_ne]; exact Ne.symm hd
      simp [markN, marksL, List.find?, List.isPrefixOf, hb]
  all_goals simp [markN, marksL, List.find?, List.isPrefixOf]
theorem prefix_of : ∀ (m r : List Nat), m.isPrefixOf r = true → ∃ z, r = m ++ z
  | [], r, _ => ⟨r, rfl⟩
  | a :: m, [], h => by simp [List.isPrefixOf] at h
  | a :: m, b :: r, h => by
    rw [List.isPrefixOf, Bool.and_eq_true] at h
    obtain ⟨z, hz⟩ := prefix_of m r h.2
    have : a = b := by simpa using h.1
    subst this
    exact ⟨z, by rw [hz]; rfl⟩
theorem mark_found {r : List Nat} (h : (markN r).1 ≠ []) : (markN r).1 ∈ marksL ∧ (markN r).2 = (markN r).1.length ∧ ∃ z, r = (markN r).1 ++ z := by
  cases hf : marksL.find? (fun m => m.isPrefixOf r) with
  | some m =>
    have hM : markN r = (m, m.length) := by unfold markN; rw [hf]
    have h1 := List.find?_some hf
    have h2 := List.mem_of_find?_eq_some hf
    rw [hM]
    refine ⟨h2, rfl, ?_⟩
    exact prefix_of _ _ h1
  | none =>
    have hM : markN r = if r.head? = some 33 ∨ r.head? = some 61 then ([], 1) else ([], 0) := by unfold markN; rw [hf]
    rw [hM] at h
    split at h <;> exact absurd rfl h
theorem mark_none {r : List Nat} (h : (markN r).1 = []) : (markN r).2 = 0 ∨ ((markN r).2 = 1 ∧ (r.head? = some 33 ∨ r.head? = some 61)) := by
  cases hf : marksL.find? (fun m => m.isPrefixOf r) with
  | some m =>
    have hM : markN r = (m, m.length) := by unfold markN; rw [hf]
    have h2 := List.mem_of_find?_eq_some hf
    rw [hM] at h
    have h' : m = [] := h
    subst h'
    exact absurd h2 (by decide)
  | none =>
    have hM : markN r = if r.head? = some 33 ∨ r.head? = some 61 then ([], 1) else ([], 0) := by unfold markN; rw [hf]
    rw [hM]
    split
    · rename_i hh; exact Or.inr ⟨rfl, hh⟩
    · exact Or.inl rfl
theorem stepP_digit {c : Nat} (h : 48 ≤ c ∧ c ≤ 57) (t : List Nat) : stepP (c :: t) = if (numScan (c :: t) 0 0).2.2 then (some (1, [], ((numScan (c :: t) 0 0).1 : Int)), (numScan (c :: t) 0 0).2.1) else (none, (numScan (c :: t) 0 0).2.1) := by
  simp only [stepP]; rw [if_pos h]
theorem stepP_letter {c : Nat} (h : letterN c = true) (t : List Nat) : stepP (c :: t) = if ((c :: t).takeWhile furtherN).length ≤ 32 then (some (if (c :: t).takeWhile furtherN ∈ wordsL then 4 else 3, (c :: t).takeWhile furtherN, 0), ((c :: t).takeWhile furtherN).length) else (none, 32) := by
  have := letter_cases h
  simp only [stepP]; rw [if_neg (by omega), if_pos h]
theorem stepP_mark {c : Nat} (h1 : ¬ (48 ≤ c ∧ c ≤ 57)) (h2 : ¬ letterN c = true) (t : List Nat) : stepP (c :: t) = if (markN (c :: t)).1 = [] then (none, (markN (c :: t)).2) else (some (5, (markN (c :: t)).1, 0), (markN (c :: t)).2) := by
  simp only [stepP]; rw [if_neg h1, if_neg h2]
theorem tokR_quote (t : List Nat) : tokR (34 :: t) = ((qR t).1.map (fun s => (2, s, 0)), (qR t).2 + 1) := by
  unfold tokR
  rw [if_pos (show (34 :: t).head? = some 34 from rfl)]
  rfl
theorem tokR_step {c : Nat} (h : c ≠ 34) (t : List Nat) : tokR (c :: t) = stepP (c :: t) := by
  unfold tokR
  rw [if_neg (by simpa using h)]
theorem num_pos {c : Nat} (h : 48 ≤ c ∧ c ≤ 57) (t : List Nat) : 1 ≤ (numScan (c :: t) 0 0).2.1 := by
  rw [numScan, if_pos h, if_neg (by omega)]
  exact (num_mono t 1 _).1
theorem tok_some {r : List Nat} (hr : Bytes r) {k n : Nat} {s : List Nat} {v : Int} (h : tokR r = (some (k, s, v), n)) : 1 ≤ n ∧ n ≤ r.length ∧ Bytes s ∧ k < 6 ∧ -9223372036854775808 ≤ v ∧ v ≤ 9223372036854775807 := by
  cases r with
  | nil => cases h
  | cons c t =>
    by_cases h34 : c = 34
    · subst h34
      rw [tokR_quote] at h
      have ht : Bytes t := fun x hx => hr x (List.mem_cons_of_mem _ hx)
      cases hq : qR t with
      | mk a m =>
        rw [hq] at h
        cases a with
        | none => cases h
        | some s' =>
          cases h
          obtain ⟨h1, h2, h3, _⟩ := qR_bound t.length t zL ht _ _ hq
          exact ⟨by omega, by rw [List.length_cons]; omega, h3, by omega, by omega, by omega⟩
    · rw [tokR_step h34] at h
      exact step_some hr h
theorem tok_local {r y : List Nat} (hr : Bytes r) (hy : Bytes y) {t : Nat × List Nat × Int} {n : Nat} (h : tokR r = (some t, n)) (hn : Next (r.drop n) y) : tokR (r.take n ++ y) = (some t, n) := by
  obtain ⟨k, s, v⟩ := t
  have hpos := (tok_some hr h).1
  cases r with
  | nil => cases h
  | cons c t =>
    obtain ⟨n, rfl⟩ : ∃ m, n = m + 1 := ⟨n - 1, by omega⟩
    by_cases h34 : c = 34
    · subst h34
      rw [tokR_quote] at h
      have ht : Bytes t := fun x hx => hr x (List.mem_cons_of_mem _ hx)
      cases hq : qR t with
      | mk a m =>
        rw [hq] at h
        cases a with
        | none => cases h
        | some s' =>
          cases h
          rw [List.take_succ_cons, List.cons_append, tokR_quote, qR_local ht hq y hy]
          rfl
    · rw [tokR_step h34] at h
      rw [List.take_succ_cons, List.cons_append, tokR_step h34]
      rw [List.drop_succ_cons] at hn
      by_cases hd : 48 ≤ c ∧ c ≤ 57
      · rw [stepP_digit hd] at h ⊢
        split at h
        · rename_i hb
          simp only [Prod.mk.injEq] at h
          obtain ⟨h1, h2⟩ := h
          have hl := num_local (c :: t) 0 0 y hb (by rw [Nat.sub_zero, h2, List.drop_succ_cons]; exact hn)
          rw [Nat.sub_zero, h2, List.take_succ_cons, List.cons_append] at hl
          rw [hl, if_pos hb, h2, h1]
        · cases h
      · by_cases hlet : letterN c = true
        · rw [stepP_letter hlet] at h ⊢
          split at h
          · rename_i h32
            simp only [Prod.mk.injEq] at h
            obtain ⟨h1, h2⟩ := h
            have htk := take_of_takeWhile (p := furtherN) (c :: t)
            rw [h2, List.take_succ_cons] at htk
            have hall : (c :: t.take n).all furtherN = true := by rw [htk]; exact takeWhile_all _
            have hrun : ((c :: (t.take n ++ y)).takeWhile furtherN) = (c :: t).takeWhile furtherN := by
              have := tw_app (p := furtherN) (c :: t.take n) y hall (hn.not_further (fun d hd' => takeWhile_next (p := furtherN) (c :: t) d (by rw [h2, List.getElem?_cons_succ, ← hd', List.head?_drop])))
              rw [List.cons_append] at this
              rw [this, htk]
            rw [hrun, if_pos h32, h1, h2]
          · cases h
        · rw [stepP_mark hd hlet] at h ⊢
          split at h
          · cases h
          · rename_i hne
            simp only [Prod.mk.injEq] at h
            obtain ⟨h1, h2⟩ := h
            obtain ⟨m1, m2, z, m3⟩ := mark_found hne
            have hM : markN ((markN (c :: t)).1 ++ z) = ((markN (c :: t)).1, (markN (c :: t)).1.length) := by
              rw [← m3, ← m2]
            have hz : z = t.drop n := by
              have e : (c :: t).drop (n + 1) = z := by
                conv => lhs; rw [m3]
                rw [← h2, m2, List.drop_left]
              rw [← e, List.drop_succ_cons]
            have hm := mark_local hM m1 (y := y) (by rw [hz]; exact hn)
            have e2 : c :: (t.take n ++ y) = (markN (c :: t)).1 ++ y := by
              have e : (c :: t).take (n + 1) = (markN (c :: t)).1 := by
                conv => lhs; rw [m3]
                rw [← h2, m2, List.take_left]
              rw [← e, List.take_succ_cons, List.cons_append]
            rw [e2, hm, if_neg hne, h1]
            simp only
            rw [← m2, h2]
def endsL : List (List Nat) := [[], [34], [110, 34], [102, 102, 34], [102, 34], [61]]
theorem tok_cut {r : List Nat} (hr : Bytes r) (h0 : r ≠ []) {n : Nat} (h : tokR r = (none, n)) : n ≤ r.length ∧ (n = 0 ∨ (∃ t, tokR (r.take n) = (some t, n)) ∨ tokR (r.take n) = (none, n)) ∧ (n = 0 ∨ ∃ x ∈ endsL, ∃ t, tokR (r.take n ++ x) = (some t, n + x.length)) := by
  cases r with
  | nil => exact absurd rfl h0
  | cons c t =>
    by_cases h34 : c = 34
    · subst h34
      have ht : Bytes t := fun x hx => hr x (List.mem_cons_of_mem _ hx)
      rw [tokR_quote] at h
      cases hq : qR t with
      | mk a m =>
        rw [hq] at h
        cases a with
        | some s' => cases h
        | none =>
          cases h
          obtain ⟨h1, h2, x, hx, s, h3⟩ := qR_cut t.length t zL ht m hq
          refine ⟨by rw [List.length_cons]; show m + 1 ≤ _; omega, Or.inr (Or.inr ?_), Or.inr ⟨x, ?_, (2, s, 0), ?_⟩⟩
          · show tokR ((34 :: t).take (m + 1)) = (none, m + 1)
            rw [List.take_succ_cons, tokR_quote, h2]
            rfl
          · unfold endsL
            simp only [List.mem_cons, List.not_mem_nil, or_false] at hx ⊢
            rcases hx with rfl | rfl | rfl | rfl <;> simp
          · show tokR ((34 :: t).take (m + 1) ++ x) = (some (2, s, 0), m + 1 + x.length)
            rw [List.take_succ_cons, List.cons_append, tokR_quote, h3]
            simp
            omega
    · rw [tokR_step h34] at h
      by_cases hd : 48 ≤ c ∧ c ≤ 57
      · rw [stepP_digit hd] at h
        split at h
        · cases h
        · injection h with _ h
          have hp := num_pos hd t
          have hm := (num_mono (c :: t) 0 0).2
          have hc := num_cut (c :: t) 0 0
          rw [Nat.sub_zero, h] at hc
          rw [h] at hp
          obtain ⟨m, rfl⟩ : ∃ m, n = m + 1 := ⟨n - 1, by omega⟩
          rw [List.take_succ_cons] at hc
          have hs : tokR ((c :: t).take (m + 1)) = (some (1, [], ((numScan (c :: t.take m) 0 0).1 : Int)), m + 1) := by
            rw [List.take_succ_cons, tokR_step h34, stepP_digit hd]
            have e1 : (numScan (c :: t.take m) 0 0).2.2 = true := by rw [hc]
            have e2 : (numScan (c :: t.take m) 0 0).2.1 = m + 1 := by rw [hc]
            rw [e1, e2]
            rfl
          exact ⟨by omega, Or.inr (Or.inl ⟨_, hs⟩), Or.inr ⟨[], by simp [endsL], _, by rw [List.append_nil]; exact hs⟩⟩
      · by_cases hlet : letterN c = true
        · rw [stepP_letter hlet] at h
          split at h
          · cases h
          · rename_i h32
            injection h with _ h
            subst h
            have hle := takeWhile_le (p := furtherN) (c :: t)
            have htk := take_of_takeWhile (p := furtherN) (c :: t)
            have hall : ((c :: t).take 32).all furtherN = true := by
              have h1 := takeWhile_all (p := furtherN) (c :: t)
              rw [List.all_eq_true] at h1 ⊢
              intro x hx
              refine h1 x ?_
              have e : (c :: t).take 32 = ((c :: t).takeWhile furtherN).take 32 := by rw [← htk, List.take_take, Nat.min_eq_left (by omega)]
              rw [e] at hx
              exact List.mem_of_mem_take hx
            have hrun := tw_app (p := furtherN) ((c :: t).take 32) [] hall (fun _ h => by cases h)
            rw [List.append_nil] at hrun
            have hl : ((c :: t).take 32).length = 32 := by rw [List.length_take]; omega
            have hs : tokR ((c :: t).take 32) = (some (if (c :: t).take 32 ∈ wordsL then 4 else 3, (c :: t).take 32, 0), 32) := by
              rw [List.take_succ_cons] at hrun hl ⊢
              rw [tokR_step h34, stepP_letter hlet, hrun, if_pos (by omega), hl]
            exact ⟨by omega, Or.inr (Or.inl ⟨_, hs⟩), Or.inr ⟨[], by simp [endsL], _, by rw [List.append_nil]; exact hs⟩⟩
        · rw [stepP_mark hd hlet] at h
          split at h
          · rename_i hm0
            injection h with _ h
            subst h
            rcases mark_none hm0 with h1 | ⟨h1, h2⟩
            · rw [h1]
              exact ⟨Nat.zero_le _, Or.inl rfl, Or.inl rfl⟩
            · have hc : c = 33 ∨ c = 61 := by simpa using h2
              rw [h1]
              refine ⟨by simp, Or.inr (Or.inr ?_), Or.inr ⟨[61], by simp [endsL], ?_⟩⟩
              · rw [List.take_succ_cons, List.take_zero]
                rcases hc with rfl | rfl <;> decide
              · rw [List.take_succ_cons, List.take_zero]
                rcases hc with rfl | rfl
                · exact ⟨(5, [33, 61], 0), by decide⟩
                · exact ⟨(5, [61, 61], 0), by decide⟩
          · cases h
end Go.Proofs.YtpkggobhhieeoaaDoor
namespace Go.Proofs.YtpkggobhhieeoaaDoor
def NoBlank (r : List Nat) : Prop := ∀ c, r.head? = some c → ¬ (c = 32 ∨ c = 10)
inductive Run : List Nat → Nat → List Tok → List Nat → Nat → Prop
  | done (r : List Nat) (i : Nat) : Run r i [] r i
  | blank {c : Nat} {t : List Nat} {i : Nat} {T : List Tok} {r' : List Nat} {i' : Nat} : (c = 32 ∨ c = 10) → Run t (i + 1) T r' i' → Run (c :: t) i T r' i'
  | tok {r : List Nat} {i k : Nat} {s : List Nat} {v : Int} {n : Nat} {T : List Tok} {r' : List Nat} {i' : Nat} : NoBlank r → tokR r = (some (k, s, v), n) → Run (r.drop n) (i + n) T r' i' → Run r i (⟨k, s, v, i⟩ :: T) r' i'
def Stuck (r : List Nat) (n : Nat) : Prop := r ≠ [] ∧ NoBlank r ∧ tokR r = (none, n)
theorem Run.total : ∀ (N : Nat) (r : List Nat) (i : Nat), r.length ≤ N → Bytes r → (∃ T i', Run r i T [] i') ∨ ∃ T r' i' n, Run r i T r' i' ∧ Stuck r' n
  | 0, r, i, h, hr => by
    have : r = [] := List.eq_nil_of_length_eq_zero (by omega)
    subst this
    exact Or.inl ⟨[], i, .done _ _⟩
  | N + 1, [], i, h, hr => Or.inl ⟨[], i, .done _ _⟩
  | N + 1, c :: t, i, h, hr => by
    by_cases hb : c = 32 ∨ c = 10
    · rcases Run.total N t (i + 1) (by simpa using h) (fun x hx => hr x (List.mem_cons_of_mem _ hx)) with ⟨T, i', h1⟩ | ⟨T, r', i', n, h1, h2⟩
      · exact Or.inl ⟨T, i', .blank hb h1⟩
      · exact Or.inr ⟨T, r', i', n, .blank hb h1, h2⟩
    · have hnb : NoBlank (c :: t) := fun d hd => by injection hd with hd; subst hd; exact hb
      cases ht : tokR (c :: t) with
      | mk a n =>
        cases a with
        | none => exact Or.inr ⟨[], c :: t, i, n, .done _ _, by simp, hnb, ht⟩
        | some q =>
          obtain ⟨k, s, v⟩ := q
          obtain ⟨h1, h2, _⟩ := tok_some hr ht
          rcases Run.total N ((c :: t).drop n) (i + n) (by rw [List.length_drop]; simp only [List.length_cons] at h h2 ⊢; omega) (bytes_drop hr n) with ⟨T, i', h3⟩ | ⟨T, r', i', m, h3, h4⟩
          · exact Or.inl ⟨_, i', .tok hnb ht h3⟩
          · exact Or.inr ⟨_, r', i', m, .tok hnb ht h3, h4⟩
theorem Run.place {r : List Nat} {i : Nat} {T : List Tok} {r' : List Nat} {i' : Nat} (h : Run r i T r' i') (hr : Bytes r) : ∃ m, i' = i + m ∧ m ≤ r.length ∧ r' = r.drop m := by
  induction h with
  | done r i => exact ⟨0, rfl, Nat.zero_le _, rfl⟩
  | blank hb h ih =>
    obtain ⟨m, h1, h2, h3⟩ := ih (fun x hx => hr x (List.mem_cons_of_mem _ hx))
    exact ⟨m + 1, by omega, by simp; omega, by rw [h3]; rfl⟩
  | @tok r i k s v n T r' i' hnb ht h ih =>
    obtain ⟨m, h1, h2, h3⟩ := ih (bytes_drop hr _)
    obtain ⟨h4, h5, _⟩ := tok_some hr ht
    rw [List.length_drop] at h2
    refine ⟨n + m, by rw [h1, Nat.add_assoc], by omega, by rw [h3, List.drop_drop]⟩
theorem Run.trans {r : List Nat} {i : Nat} {T T' : List Tok} {r1 r2 : List Nat} {i1 i2 : Nat} (h : Run r i T r1 i1) (h' : Run r1 i1 T' r2 i2) : Run r i (T ++ T') r2 i2 := by
  induction h with
  | done r i => exact h'
  | blank hb _ ih => exact .blank hb (ih h')
  | tok hnb ht _ ih => exact .tok hnb ht (ih h')
theorem Run.ctx {r : List Nat} {i : Nat} {T : List Tok} {r' : List Nat} {i' : Nat} (h : Run r i T r' i') : Bytes r → ∀ y, Bytes y → Next r' y → Run (r.take (i' - i) ++ y) i T y i' := by
  induction h with
  | done r i => intro _ y _ _; rw [Nat.sub_self, List.take_zero]; exact .done _ _
  | @blank c t i T r' i' hb h ih =>
    intro hr y hy hn
    have hr' : Bytes t := fun x hx => hr x (List.mem_cons_of_mem _ hx)
    obtain ⟨m, h1, _, _⟩ := h.place hr'
    have e : i' - i = (i' - (i + 1)) + 1 := by omega
    rw [e, List.take_succ_cons]
    exact .blank hb (ih hr' y hy hn)
  | @tok r i k s v n T r' i' hnb ht h ih =>
    intro hr y hy hn
    obtain ⟨h4, h5, _⟩ := tok_some hr ht
    obtain ⟨m, h1, h2, h3⟩ := h.place (bytes_drop hr n)
    have hX := ih (bytes_drop hr n) y hy hn
    have e1 : i' - (i + n) = m := by omega
    have e2 : i' - i = n + m := by omega
    rw [e1] at hX
    rw [e2, List.take_add, List.append_assoc]
    have hXb : Bytes ((r.drop n).take m ++ y) := bytes_app (bytes_take (bytes_drop hr n) m) hy
    have hnext : Next (r.drop n) ((r.drop n).take m ++ y) := by
      cases hd : r.drop n with
      | nil => rw [hd] at h3; rw [List.drop_nil] at h3; subst h3; rw [List.take_nil, List.nil_append]; exact hn
      | cons a u =>
        cases m with
        | zero => rw [hd, List.drop_zero] at h3; subst h3; rw [List.take_zero, List.nil_append]; exact hn
        | succ m => left; rfl
    have htl : (r.take n).length = n := by rw [List.length_take]; omega
    refine .tok (n := n) ?_ (tok_local hr hXb ht hnext) ?_
    · intro c hc
      refine hnb c ?_
      cases r with
      | nil => simp at h5; omega
      | cons a u =>
        obtain ⟨n, rfl⟩ : ∃ m, n = m + 1 := ⟨n - 1, by omega⟩
        exact hc
    · have : (r.take n ++ ((r.drop n).take m ++ y)).drop n = (r.drop n).take m ++ y := by
        conv => lhs; rw [← htl]
        rw [htl]
        have := List.drop_left (l₁ := r.take n) (l₂ := (r.drop n).take m ++ y)
        rw [htl] at this
        exact this
      rw [this]
      exact hX
theorem drop_get {l r : List Nat} {i : Nat} (h : r = l.drop i) : r.head? = l[i]? := by rw [h, List.head?_drop]
theorem quote_tok {l t : List Nat} {i : Nat} (hl : Bytes l) (h : 34 :: t = l.drop i) : quoteAt l i = match qR t with
    | (some s, n) => (s, i + 1 + n, 0)
    | (none, n) => ([], i + 1 + n, 10) := by
  have hd : l.drop (i + 1) = t := by rw [← List.drop_drop, ← h]; rfl
  unfold quoteAt
  rw [unq_qS _ _ _ _ hl (by rw [hd]; have := congrArg List.length h; rw [List.length_drop, List.length_cons] at this; omega), hd]
  cases qR t with
  | mk a n => cases a <;> simp
theorem scan_run {l : List Nat} (hl : Bytes l) {r : List Nat} {i : Nat} {T : List Tok} {r' : List Nat} {i' : Nat} (h : Run r i T r' i') : r = l.drop i → ∀ f o, r.length < f → ∃ f', r'.length < f' ∧ scanT l f i o = scanT l f' i' (o ++ T) := by
  induction h with
  | done r i => intro _ f o hf; exact ⟨f, hf, by rw [List.append_nil]⟩
  | @blank c t i T r' i' hb h ih =>
    intro hr f o hf
    have hd : t = l.drop (i + 1) := by rw [← List.drop_drop, ← hr]; rfl
    obtain ⟨f', h1, h2⟩ := ih hd (f - 1) o (by rw [List.length_cons] at hf; omega)
    refine ⟨f', h1, ?_⟩
    have := scan_blank (l := l) (f := f) (i := i) (c := c) (o := o) rfl (by rw [List.length_cons] at hf; omega) (by rw [← drop_get hr]; rfl) hb
    rw [← this, h2]
  | @tok r i k s v n T r' i' hnb ht h ih =>
    intro hr f o hf
    have hrb : Bytes r := by rw [hr]; exact bytes_drop hl i
    obtain ⟨h4, h5, _⟩ := tok_some hrb ht
    have hd : r.drop n = l.drop (i + n) := by rw [hr, List.drop_drop]
    obtain ⟨f', h1, h2⟩ := ih hd (f - 1) (o ++ [⟨k, s, v, i⟩]) (by rw [List.length_drop]; omega)
    refine ⟨f', h1, ?_⟩
    rw [List.append_assoc] at h2
    rw [List.singleton_append] at h2
    rw [← h2]
    cases hrr : r with
    | nil => rw [hrr] at h5; simp at h5; omega
    | cons c t =>
      rw [hrr] at hr ht hnb
      have hc : l[i]? = some c := by rw [← drop_get hr]; rfl
      have hcb := hnb c rfl
      by_cases h34 : c = 34
      · subst h34
        rw [tokR_quote] at ht
        have hq := quote_tok hl hr
        cases hqr : qR t with
        | mk a m =>
          rw [hqr] at ht hq
          cases a with
          | none => cases ht
          | some s' =>
            simp only [Option.map_some, Prod.mk.injEq, Option.some.injEq] at ht
            obtain ⟨⟨rfl, rfl, rfl⟩, rfl⟩ := ht
            have := scan_quote (l := l) (f := f) (i := i) (o := o) rfl (by omega) hc hq
            rw [← this]
            have e : i + 1 + m = i + (m + 1) := by omega
            rw [e]
            rfl
      · rw [tokR_step h34] at ht
        exact (scan_step (l := l) (f := f) (i := i) (o := o) rfl (by omega) hc hcb h34 (by rw [← hr]; exact ht)).symm
theorem scan_stuck {l r : List Nat} (hl : Bytes l) {i n : Nat} (h : Stuck r n) (hr : r = l.drop i) {f : Nat} (hf : 0 < f) (o : List Tok) : scanT l f i o = ([], i + n, 70) := by
  obtain ⟨h0, hnb, ht⟩ := h
  cases hrr : r with
  | nil => exact absurd hrr h0
  | cons c t =>
    rw [hrr] at hr ht hnb
    have hc : l[i]? = some c := by rw [← drop_get hr]; rfl
    have hcb := hnb c rfl
    by_cases h34 : c = 34
    · subst h34
      rw [tokR_quote] at ht
      have hq := quote_tok hl hr
      cases hqr : qR t with
      | mk a m =>
        rw [hqr] at ht hq
        cases a with
        | some s' => cases ht
        | none =>
          simp only [Option.map_none, Prod.mk.injEq] at ht
          obtain ⟨_, rfl⟩ := ht
          rw [scan_quote_no (l := l) (f := f) (i := i) (o := o) rfl hf hc hq (by omega)]
          have e : i + 1 + m = i + (m + 1) := by omega
          rw [e]
    · rw [tokR_step h34] at ht
      exact scan_step_no (l := l) (f := f) (i := i) (o := o) rfl hf hc hcb h34 (by rw [← hr]; exact ht)
theorem scan_ok {l : List Nat} (hl : Bytes l) (h4 : l.length ≤ 4096) {T : List Tok} {i' : Nat} (h : Run l 0 T [] i') : scanN l = (T, 0, 0) := by
  obtain ⟨f', h1, h2⟩ := scan_run hl h rfl (l.length + 1) [] (by omega)
  obtain ⟨m, h3, _, h5⟩ := h.place hl
  unfold scanN
  rw [if_neg (by omega), h2]
  have hlen := congrArg List.length h5
  rw [List.length_drop] at hlen
  have : l.length ≤ i' := by simp at hlen; omega
  rw [List.nil_append, scan_end rfl this]
theorem scan_no {l : List Nat} (hl : Bytes l) (h4 : l.length ≤ 4096) {T : List Tok} {r' : List Nat} {i' n : Nat} (h : Run l 0 T r' i') (hs : Stuck r' n) : scanN l = ([], i' + n, 70) := by
  obtain ⟨f', h1, h2⟩ := scan_run hl h rfl (l.length + 1) [] (by omega)
  obtain ⟨m, h3, _, h5⟩ := h.place hl
  unfold scanN
  rw [if_neg (by omega), h2]
  exact scan_stuck hl hs (by rw [h5, h3, Nat.zero_add]) (by omega) _
theorem scan_cases {l : List Nat} (hl : Bytes l) (h4 : l.length ≤ 4096) : (∃ T i', Run l 0 T [] i' ∧ scanN l = (T, 0, 0)) ∨ (∃ T r' i' n, Run l 0 T r' i' ∧ Stuck r' n ∧ scanN l = ([], i' + n, 70)) := by
  rcases Run.total l.length l 0 zL hl with ⟨T, i', h⟩ | ⟨T, r', i', n, h, hs⟩
  · exact Or.inl ⟨T, i', h, scan_ok hl h4 h⟩
  · exact Or.inr ⟨T, r', i', n, h, hs, scan_no hl h4 h hs⟩
end Go.Proofs.YtpkggobhhieeoaaDoor
namespace Go.Proofs.YtpkggobhhieeoaaDoor
theorem run_split {r : List Nat} {i0 : Nat} {T : List Tok} {r' : List Nat} {i' : Nat} (h : Run r i0 T r' i') : ∀ (k : Nat) (x : Tok), T[k]? = some x → ∃ r1 i1, Run r i0 (T.take k) r1 i1 ∧ x.place = (i1 : Int) := by
  induction h with
  | done r i => intro k x hk; simp at hk
  | blank hb _ ih =>
    intro k x hk
    obtain ⟨r1, i1, h1, h2⟩ := ih k x hk
    exact ⟨r1, i1, .blank hb h1, h2⟩
  | @tok r i kd s v n T r' i' hnb ht _ ih =>
    intro k x hk
    cases k with
    | zero => simp at hk; subst hk; exact ⟨r, i, .done _ _, rfl⟩
    | succ k =>
      simp only [List.getElem?_cons_succ] at hk
      obtain ⟨r1, i1, h1, h2⟩ := ih k x hk
      exact ⟨r1, i1, .tok hnb ht h1, h2⟩
theorem scan_cut {s : List Nat} (hs : Bytes s) (h4 : s.length ≤ 4096) {T : List Tok} {i' : Nat} (h : Run s 0 T [] i') {k : Nat} {x : Tok} (hk : T[k]? = some x) : ∃ i1 : Nat, x.place = (i1 : Int) ∧ i1 ≤ s.length ∧ scanN (s.take i1) = (T.take k, 0, 0) := by
  obtain ⟨r1, i1, h1, h2⟩ := run_split h k x hk
  obtain ⟨m, h3, h5, _⟩ := h1.place hs
  have hc := h1.ctx hs [] (fun x hx => by cases hx) (.inr (.inl rfl))
  rw [List.append_nil, Nat.sub_zero] at hc
  exact ⟨i1, h2, by omega, scan_ok (bytes_take hs i1) (by rw [List.length_take]; omega) hc⟩
end Go.Proofs.YtpkggobhhieeoaaDoor
namespace Go.Proofs.YtpkggobhhieeoaaDoor
theorem Run.more {r : List Nat} {i : Nat} {T : List Tok} {r' : List Nat} {i' : Nat} (h : Run r i T r' i') : Bytes r → r' ≠ [] → ∀ y, Bytes y → Run (r ++ y) i T (r' ++ y) i' := by
  induction h with
  | done r i => intro _ _ y _; exact .done _ _
  | blank hb _ ih =>
    intro hr h0 y hy
    rw [List.cons_append]
    exact .blank hb (ih (fun x hx => hr x (List.mem_cons_of_mem _ hx)) h0 y hy)
  | @tok r i k s v n T r' i' hnb ht h ih =>
    intro hr h0 y hy
    obtain ⟨h4, h5, _⟩ := tok_some hr ht
    obtain ⟨m, h1, h2, h3⟩ := h.place (bytes_drop hr n)
    have hX := ih (bytes_drop hr n) h0 y hy
    have e : r.take n ++ (r.drop n ++ y) = r ++ y := by rw [← List.append_assoc, List.take_append_drop]
    have hd : r.drop n ≠ [] := fun e => h0 (by rw [h3, e, List.drop_nil])
    refine .tok (n := n) ?_ ?_ ?_
    · intro c hc
      refine hnb c ?_
      cases r with
      | nil => simp at h5; omega
      | cons a u => exact hc
    · rw [← e]
      refine tok_local hr (bytes_app (bytes_drop hr n) hy) ht (.inl ?_)
      cases hdd : r.drop n with
      | nil => exact absurd hdd hd
      | cons a u => rfl
    · rw [List.drop_append_of_le_length h5]
      exact hX
theorem parseN_scan {s : List Nat} (h : (scanN s).2.2 ≠ 0) : parseN s = ([], (scanN s).2.1, (scanN s).2.2) := by unfold parseN; rw [if_pos h]
theorem parseN_run {s : List Nat} {T : List Tok} (e : scanN s = (T, 0, 0)) : parseN s = match parseT T with
    | .ok t _ => if 256 < t.size ∨ 32 < t.deep then ([], 0, 4) else (t.flat 0, 0, 0)
    | .no i => ([], (match T[i]? with | some x => x.place.toNat | none => s.length), 80)
    | .out => ([], 0, 0) := by
  unfold parseN
  rw [if_neg (by rw [e]; simp), e]
  rfl
end Go.Proofs.YtpkggobhhieeoaaDoor
namespace Go.Proofs.YtpkggobhhieeoaaDoor
open Go.RowKit
section
variable {q : Nat} {a : Option Addr} {c sz : Nat} {l : List Tok} {i : Nat} {W : World}
theorem PSt.quiet {W' : World} (h : PSt q a c sz l i W) (hq : Quiet W W') : PSt q a c sz l i W' := h.keep (hq.below _)
theorem Mv.quiet {W' : World} (hq : Quiet W W') : Mv q W W' := by
  obtain ⟨n, rfl⟩ := hq
  exact ⟨below_drewN zB n, fun k _ _ => rfl⟩
theorem PSt.step (h : PSt q a c sz l i W) {j : Nat} {u : Value} (hu : u = .int .i64 (j : Int)) (hj : j ≤ l.length) (n : Nat) : Mv q W ((W.drewN n).setCell ⟨q, 1, none⟩ u) ∧ PSt q a c sz l j ((W.drewN n).setCell ⟨q, 1, none⟩ u) :=
  ⟨(Mv.quiet ⟨n, rfl⟩).trans (Mv.set _ _ _ _), (h.quiet ⟨n, rfl⟩).set hu hj⟩
theorem p_give (h : PSt q a c sz l i W) : Calls Tryd.prog 56 #[.pointer (some ⟨q, 0, none⟩)] W fun e w' => e = .panicked (thrownE (placeAt l sz i)) ∧ Quiet W w' := by
  obtain ⟨f0, f1, f2, f3, f4⟩ := h.facts
  obtain ⟨n, hn⟩ : ∃ n, l.length = n := ⟨_, rfl⟩
  have hle := h.le
  have hfew := h.few
  rw [hn] at f0 hle hfew
  have n63 : n ≤ 9223372036854775807 := by omega
  have i0 : (0 : Int) ≤ (i : Int) := Int.natCast_nonneg _
  by_cases hlt : i < n
  · obtain ⟨t, ht⟩ := get_some hn hlt
    obtain ⟨b0, off, rfl, t0, t1, t2, t3, hok⟩ := h.tok ht
    have hB : placeAt l sz i = t.place := by unfold placeAt; rw [ht]
    obtain ⟨pl, hpl⟩ : ∃ k, t.place = k := ⟨_, rfl⟩
    rw [hpl] at t3 hB
    have HB := zH hB
    have dlt : decide (i < n) = true := by simpa using hlt
    have dlt2 : (i : Int) < (n : Int) := by omega
    clear h hn ht hpl hok hB t0 t1 t2
    go_enter Tryd.func56, Tryd.ntmps56
    go_wp2_with fail
    go_quiet (fail)
    go_wp2_with fail
    generalize hwq : World.drewN W _ = W1
    have g0 : W1.cell? ⟨q, 0, none⟩ = some (.slice (some ⟨b0, off, none⟩) n c) := by rw [← hwq]; exact f0
    have g1 : W1.cell? ⟨q, 1, none⟩ = some (.int .i64 (i : Int)) := by rw [← hwq]; exact f1
    have g3 : W1.cell? ⟨b0, off + i * 4 + 3, none⟩ = some (.int .i64 pl) := by rw [← hwq]; exact t3
    have QW : Hid (Quiet W W1) := zH ⟨_, hwq.symm⟩
    clear hwq f0 f1 f2 f3 f4 t3
    go_still_tail 13, (by kernel_rfl)
    change wpList _ _ _ _ _ W1.drew
    go_wp2_with fail
    exact ⟨rfl, by rw [HB.out]; rfl, QW.out.drewN 1⟩
  · obtain rfl : i = n := by omega
    have hB : placeAt l sz i = (sz : Int) := by unfold placeAt; rw [List.getElem?_eq_none (by omega)]
    have HB := zH hB
    have dlt : decide (i < i) = false := by simp
    clear h hn hB hlt
    go_enter Tryd.func56, Tryd.ntmps56
    go_wp2_with fail
    go_quiet (fail)
    rename_i hK
    refine hK _ _ ?_
    go_wp2_with fail
    exact ⟨rfl, by rw [HB.out]; rfl, ⟨_, rfl⟩⟩
theorem p_want_yes (s : List Nat) (hs : Bytes s) (ht : isT l i s = true) (h : PSt q a c sz l i W) : Calls Tryd.prog 114 #[.pointer (some ⟨q, 0, none⟩), .string (txt s)] W fun e w' => e = .returned (.tuple #[]) ∧ Mv q W w' ∧ PSt q a c sz l (i + 1) w' := by
  obtain ⟨f0, f1, f2, f3, f4⟩ := h.facts
  have hlt : i + 1 ≤ l.length := isT_lt ht
  have hfew := h.few
  have i63 : (i : Int) ≤ 5000 := by omega
  have i0 : (0 : Int) ≤ (i : Int) := Int.natCast_nonneg _
  have H := zH h
  have HN := zH (p_next s hs true ht h)
  clear h ht hfew
  go_enter Tryd.func114, Tryd.ntmps114
  go_wp2_with (go_at_call 103; (with_reducible refine HN.out.mono ?_); rintro e w1 ⟨rfl, nq, rfl⟩)
  go_end0
  exact ⟨rfl, H.out.step (j := i + 1) (by go_num) hlt nq⟩
theorem p_want_no (s : List Nat) (hs : Bytes s) (ht : isT l i s = false) (h : PSt q a c sz l i W) : Calls Tryd.prog 114 #[.pointer (some ⟨q, 0, none⟩), .string (txt s)] W fun e w' => e = .panicked (thrownE (placeAt l sz i)) ∧ Quiet W w' := by
  have H := zH h
  have HN := zH (p_next s hs false ht h)
  clear h ht
  go_enter Tryd.func114, Tryd.ntmps114
  go_wp2_with (first
    | (go_at_call 103; (with_reducible refine HN.out.mono ?_); rintro e w1 ⟨rfl, nq, rfl⟩; have Q1 : Hid (Quiet W (W.drewN nq)) := zH ⟨nq, rfl⟩)
    | (go_at_call 56; (with_reducible refine (p_give (H.out.quiet Q1.out)).mono ?_); rintro e w2 ⟨rfl, q2⟩; have Q2 := zH (Q1.out.trans q2); clear q2))
  exact ⟨rfl, rfl, Q2.out⟩
theorem p_name_yes {t : Tok} (ht : l[i]? = some t) (hk : t.kind = 3) (h : PSt q a c sz l i W) : Calls Tryd.prog 111 #[.pointer (some ⟨q, 0, none⟩)] W fun e w' => e = .returned (.string (txt t.text)) ∧ Mv q W w' ∧ PSt q a c sz l (i + 1) w' := by
  obtain ⟨f0, f1, f2, f3, f4⟩ := h.facts
  have hfew := h.few
  have hlt := (List.getElem?_eq_some_iff.1 ht).1
  obtain ⟨b0, off, rfl, t0, t1, _, _, hok⟩ := h.tok ht
  rw [hk] at t0
  have H := zH h
  obtain ⟨n, hn⟩ : ∃ n, l.length = n := ⟨_, rfl⟩
  have Hn := zH hn
  rw [hn] at f0 hlt hfew
  have n63 : n ≤ 9223372036854775807 := by omega
  have i0 : (0 : Int) ≤ (i : Int) := Int.natCast_nonneg _
  have i5 : (i : Int) ≤ 5000 := by omega
  have dlt : ((i : Int) == (n : Int)) = false := by simp; omega
  have dlt2 : (i : Int) < (n : Int) := by omega
  obtain ⟨tt, htt⟩ : ∃ k, t.text = k := ⟨_, rfl⟩
  rw [htt] at t1 ⊢
  have HTT := zH htt
  have HT := zH ht
  clear h ht hk hn hok htt
  go_enter Tryd.func111, Tryd.ntmps111
  go_wp2_with fail
  go_quiet (fail)
  rename_i nq
  go_wp2_with fail
  have hS := H.out.step (j := i + 1) (u := .int .i64 ((i : Int) + 1)) (by go_num) (by rw [Hn.out]; omega)
  generalize hwq : World.setCell _ _ _ = W1
  have hS1 := hS nq
  rw [hwq] at hS1
  obtain ⟨g0, g1, g2, g3, g4⟩ := hS1.2.facts
  obtain ⟨b1, o1, e1, t0', t1', _, _, _⟩ := hS1.2.tok HT.out
  injection e1 with e1
  injection e1 with e1 e2
  subst e1 e2
  rw [HTT.out] at t1'
  rw [Hn.out] at g0
  have HS := zH hS1
  have ws : IntKind.i64.wrap ((i : Int) + 1 - 1) = (i : Int) := by rw [IntKind.wrap_i64]; omega
  clear hwq hS hS1 f0 f1 f2 f3 f4 t0 t1 t0' g2 g3 g4
  have g1' : W1.cell? ⟨q, 1, none⟩ = some (.int .i64 ((i : Int) + 1)) := g1
  clear g1
  go_quiet (fail)
  go_wp2_with fail
  go_ret
  exact ⟨rfl, HS.out.1.trans (Mv.quiet ⟨_, rfl⟩), HS.out.2.quiet ⟨_, rfl⟩⟩
theorem p_name_no (hk : ∀ t, l[i]? = some t → t.kind ≠ 3) (h : PSt q a c sz l i W) : Calls Tryd.prog 111 #[.pointer (some ⟨q, 0, none⟩)] W fun e w' => e = .panicked (thrownE (placeAt l sz i)) ∧ Quiet W w' := by
  obtain ⟨f0, f1, f2, f3, f4⟩ := h.facts
  have hfew := h.few
  have hle := h.le
  have H := zH h
  obtain ⟨n, hn⟩ : ∃ n, l.length = n := ⟨_, rfl⟩
  rw [hn] at f0 hle hfew
  have n63 : n ≤ 9223372036854775807 := by omega
  have i0 : (0 : Int) ≤ (i : Int) := Int.natCast_nonneg _
  by_cases hlt : i < n
  · obtain ⟨t, ht⟩ := get_some hn hlt
    obtain ⟨b0, off, rfl, t0, _, _, _, _⟩ := h.tok ht
    have hk3 := hk t ht
    obtain ⟨kd, hkd⟩ : ∃ k, t.kind = k := ⟨_, rfl⟩
    rw [hkd] at t0 hk3
    have dlt : ((i : Int) == (n : Int)) = false := by simp; omega
    have dlt2 : (i : Int) < (n : Int) := by omega
    have d3 : (kd != 3) = true := by simpa using hk3
    have d4 : (kd == 3) = false := by simpa using hk3
    clear h ht hk hn hkd hk3
    go_enter Tryd.func111, Tryd.ntmps111
    go_wp2_with fail
    go_quiet (fail)
    rename_i nq
    have Q1 : Hid (Quiet W (W.drewN nq)) := zH ⟨nq, rfl⟩
    go_wp2_with (first
      | (go_at_call 56; (with_reducible refine (p_give (H.out.quiet Q1.out)).mono ?_); rintro e w2 ⟨rfl, q2⟩; have Q2 := zH (Q1.out.trans q2); clear q2))
    exact ⟨rfl, rfl, Q2.out⟩
  · obtain rfl : i = n := by omega
    clear h hk hlt hn
    go_enter Tryd.func111, Tryd.ntmps111
    go_wp2_with fail
    go_quiet (fail)
    rename_i nq
    have Q1 : Hid (Quiet W (W.drewN nq)) := zH ⟨nq, rfl⟩
    go_wp2_with (first
      | (go_at_call 56; (with_reducible refine (p_give (H.out.quiet Q1.out)).mono ?_); rintro e w2 ⟨rfl, q2⟩; have Q2 := zH (Q1.out.trans q2); clear q2))
    exact ⟨rfl, rfl, Q2.out⟩
end
end Go.Proofs.YtpkggobhhieeoaaDoor
namespace Go.Proofs.YtpkggobhhieeoaaDoor
open Go.RowKit
def thrownT (k f : Nat) : List PanicEntry := [{ v := .iface 39 (.agg #[.int .i64 (k : Int), .int .i64 (f : Int)]), recovered := false }]
structure RdS (q : Nat) (s : ByteArray) (v : Value) (i : Nat) (W : World) : Prop where
  box : Blk W q 43 #[.string s, .int .i64 (i : Int), v]
  low : 4 < q
  marks : Marks W
  signs : Signs W
  le : i ≤ s.size
  few : s.size ≤ 4096
theorem Marks.of_block {w w' : World} (h : Marks w) (hb : w'.heap[0]? = w.heap[0]?) : Marks w' := by
  unfold Marks World.var? at h ⊢
  rw [show Tryd.prog.globalNamed "topiary/lex.marks" = some 0 by kernel_rfl] at h ⊢
  simp only [Option.bind_some] at h ⊢
  rw [hb]
  exact h
section
variable {q : Nat} {s : ByteArray} {v : Value} {i : Nat} {W W' : World}
theorem RdS.mv {j : Nat} {v' : Value} (h : RdS q s v i W) (hm : Below q W W') (hb : Blk W' q 43 #[.string s, .int .i64 (j : Int), v']) (hj : j ≤ s.size) : RdS q s v' j W' :=
  ⟨hb, h.low, h.marks.of_block (hm.block 0 (by have := h.low; omega)), h.signs.of_block (hm.block 4 h.low), hj, h.few⟩
theorem RdS.keep (h : RdS q s v i W) (hb : Below W.heap.size W W') : RdS q s v i W' :=
  h.mv (hb.mono (Nat.le_of_lt h.box.lt)) (h.box.below hb h.box.lt) h.le
theorem RdS.set (h : RdS q s v i W) {j : Nat} {u : Value} (hu : u = .int .i64 (j : Int)) (hj : j ≤ s.size) : RdS q s v j (W.setCell ⟨q, 1, none⟩ u) := by
  subst hu
  exact h.mv (Mv.set _ _ _ _).low (h.box.set_ 1 _) hj
theorem RdS.quiet (h : RdS q s v i W) (hq : Quiet W W') : RdS q s v i W' := h.keep (hq.below _)
theorem RdS.step (h : RdS q s v i W) {j : Nat} {u : Value} (hu : u = .int .i64 (j : Int)) (hj : j ≤ s.size) (n : Nat) : Mv q W ((W.drewN n).setCell ⟨q, 1, none⟩ u) ∧ RdS q s v j ((W.drewN n).setCell ⟨q, 1, none⟩ u) :=
  ⟨(Mv.quiet ⟨n, rfl⟩).trans (Mv.set _ _ _ _), (h.quiet ⟨n, rfl⟩).set hu hj⟩
theorem RdS.facts (h : RdS q s v i W) : W.cell? ⟨q, 0, none⟩ = some (.string s) ∧ W.cell? ⟨q, 1, none⟩ = some (.int .i64 (i : Int)) ∧ W.cell? ⟨q, 2, none⟩ = some v ∧ W.frozen? ⟨q, 1, none⟩ = false ∧ W.frozen? ⟨q, 2, none⟩ = false ∧ q < W.heap.size :=
  ⟨h.box.cell rfl, h.box.cell rfl, h.box.cell rfl, h.box.frozen 1, h.box.frozen 2, h.box.lt⟩
end
theorem hasP0 (s p : ByteArray) (hs : s.size ≤ maxLen) (hp : p.size ≤ 4096) (b : Bool) (hb : decide ((bs s).take p.size = bs p) = b) (w : World) : Calls Tryd.prog 40 #[.string s, .string p] w fun e w' => e = .returned (.bool b) ∧ Quiet w w' := by
  obtain ⟨n, hn⟩ : ∃ n, s.size = n := ⟨_, rfl⟩
  obtain ⟨m, hm⟩ : ∃ m, p.size = m := ⟨_, rfl⟩
  have hn' : (s.size : Int) = (n : Int) := by rw [hn]
  have hm' : (p.size : Int) = (m : Int) := by rw [hm]
  have m0 : (0 : Int) ≤ (m : Int) := Int.natCast_nonneg _
  have hx : (decide ((s.extract 0 m).toList = p.toList)) = b := by
    rw [← hb, hm]
    congr 1
    rw [toList_inj, eq_iff_iff]
    constructor
    · intro h; rw [← h, bs_extract, List.drop_zero]
    · intro h; exact bs_inj (by rw [bs_extract, List.drop_zero, h])
  by_cases hlt : m ≤ n
  · have d1 : decide ((m : Int) ≤ (n : Int)) = true := by simpa using hlt
    have d2 : (m : Int) ≤ (n : Int) := by omega
    have e1 : ((s.extract 0 m).toList == p.toList) = b := by rw [← hx]; exact (by cases hd : decide ((s.extract 0 m).toList = p.toList) <;> simpa using hd)
    have HB := zH hx
    clear hb hx hn hm hlt
    go_enter Tryd.func40, Tryd.ntmps40
    go_wp2_with fail
    go_ret
    exact ⟨rfl, Quiet.refl _⟩
  · have d1 : decide ((m : Int) ≤ (n : Int)) = false := by simp; omega
    have d2 : ¬ m ≤ n := hlt
    have hf : b = false := by
      rw [← hb]
      simp only [decide_eq_false_iff_not]
      intro h
      have := congrArg List.length h
      rw [List.length_take, bs_len, bs_len] at this
      omega
    have HB := zH hf
    clear hb hx hn hm hlt hf
    go_enter Tryd.func40, Tryd.ntmps40
    go_wp2_with fail
    go_ret
    exact ⟨by rw [HB.out]; rfl, Quiet.refl _⟩
theorem hasP (s p : ByteArray) (hs : s.size ≤ maxLen) (hp : p.size ≤ 4096) (b : Bool) (hb : decide ((bs s).take p.size = bs p) = b) (w : World) : Calls Tryd.prog 27 #[.string s, .string p] w fun e w' => e = .returned (.bool b) ∧ Quiet w w' := by
  have H := zH (fun W => hasP0 s p hs hp b hb W)
  clear hb
  go_enter Tryd.func27, Tryd.ntmps27
  go_wp2_with (go_at_call 40; (with_reducible refine (H.out _).mono ?_); rintro e w1 ⟨rfl, nq, rfl⟩)
  go_ret
  exact ⟨rfl, nq, rfl⟩
def nextB (s : ByteArray) (i : Nat) (t : ByteArray) : Bool := decide (((bs s).drop i).take t.size = bs t)
theorem t_next {q : Nat} {s : ByteArray} {v : Value} {i : Nat} {W : World} (t : ByteArray) (ht : t.size ≤ 4096) (b : Bool) (hb : nextB s i t = b) (h : RdS q s v i W) :
    Calls Tryd.prog 15 #[.pointer (some ⟨q, 0, none⟩), .string t] W fun e w' => e = .returned (.bool b) ∧ Quiet W w' := by
  obtain ⟨f0, f1, f2, f3, f4, f5⟩ := h.facts
  obtain ⟨n, hn⟩ : ∃ n, s.size = n := ⟨_, rfl⟩
  have hle := h.le
  have hfew := h.few
  have HP : Hid (∀ W, Calls Tryd.prog 27 #[.string (s.extract i s.size), .string t] W fun e w' => e = .returned (.bool b) ∧ Quiet W w') := zH (fun W => by
    refine hasP (s.extract i s.size) t ?_ ht b ?_ W
    · rw [← bs_len, bs_extract, List.length_drop, List.length_take, bs_len]; unfold maxLen; omega
    · rw [← hb]; unfold nextB; rw [bs_extract, List.take_of_length_le (l := bs s) (by rw [bs_len]; exact Nat.le_refl _)])
  have hn' : (s.size : Int) = (n : Int) := by rw [hn]
  rw [hn] at hle hfew
  have i0 : (0 : Int) ≤ (i : Int) := Int.natCast_nonneg _
  have i1 : (i : Int) ≤ (n : Int) := by omega
  clear h hb hn
  go_enter Tryd.func15, Tryd.ntmps15
  go_wp2_with fail
  go_quiet ((go_at_call 27; exact quiet_call (HP.out _) rfl))
  go_wp2_with fail
  go_ret
  exact ⟨rfl, ⟨_, rfl⟩⟩
end Go.Proofs.YtpkggobhhieeoaaDoor
namespace Go.Proofs.YtpkggobhhieeoaaDoor
open Go.RowKit
theorem find_drop1 {α : Type} {p : α → Bool} {l : List α} {k : Nat} {m : α} (h : l[k]? = some m) : (l.drop k).find? p = if p m = true then some m else (l.drop (k + 1)).find? p := by
  have hk := (List.getElem?_eq_some_iff.1 h).1
  rw [List.drop_eq_getElem_cons hk, (List.getElem?_eq_some_iff.1 h).2, List.find?_cons]
  cases p m <;> rfl
theorem signs_index (k : Nat) (hk : k < 15) (W : World) : ∃ x, signsL[k]? = some x ∧ (Instr.index 148 (.agg signsV) (.int .i64 (k : Int))).run Tryd.prog W = .ok (.agg #[.string (txt x.1), .int .i64 (x.2.1 : Int), .int .i64 (x.2.2 : Int)]) W := by
  rcases k with _ | _ | _ | _ | _ | _ | _ | _ | _ | _ | _ | _ | _ | _ | _ | k
  all_goals first | omega | exact ⟨_, rfl, by kernel_rfl⟩
def signP (l : List Tok) (n i : Nat) (x : List Nat × Nat × Nat) : Bool := decide (x.2.2 = n) && isT l i x.1
theorem signK_find (l : List Tok) (n i : Nat) : signK l n i = match signsL.find? (signP l n i) with | some x => x.2.1 | none => 0 := rfl
section
variable {q : Nat} {a : Option Addr} {c sz : Nat} {l : List Tok} {i : Nat} {W : World}
theorem Mv.setNew {W X : World} (h : Mv q W X) {p : Addr} (u : Value) (hq : q ≤ p.block) (hB : W.heap.size ≤ p.block) : Mv q W (X.setCell p u) :=
  ⟨h.low.setCell hq u, fun k h1 h2 => (Below.heap_setCell X p u k (by omega)).trans (h.high k h1 h2)⟩
theorem PSt.setFar (h : PSt q a c sz l i W) {p : Addr} (u : Value) (hp : q < p.block) : PSt q a c sz l i (W.setCell p u) :=
  h.mv ((Below.refl q W).setCell (Nat.le_of_lt hp) u) (h.box.far (Nat.ne_of_lt hp) u) h.le
def SignIs (q : Nat) (a : Option Addr) (c sz : Nat) (l : List Tok) (i : Nat) (W : World) : Option (List Nat × Nat × Nat) → Ending → World → Prop
  | none, e, w' => e = .returned (.tuple #[.agg #[.string ByteArray.empty, .int .i64 0, .int .i64 0], .bool false]) ∧ Mv q W w' ∧ PSt q a c sz l i w'
  | some x, e, w' => e = .returned (.tuple #[.agg #[.string (txt x.1), .int .i64 (x.2.1 : Int), .int .i64 (x.2.2 : Int)], .bool true]) ∧ Mv q W w' ∧ PSt q a c sz l (i + 1) w'
theorem p_sign0 (n : Nat) (h : PSt q a c sz l i W) (R : Option (List Nat × Nat × Nat)) (hR : signsL.find? (signP l n i) = R) :
    Calls Tryd.prog 92 #[.pointer (some ⟨q, 0, none⟩), .int .i64 (n : Int)] W fun e w' => SignIs q a c sz l i W R e w' := by
  obtain ⟨tt, fr, hg1⟩ := signs_block h.signs
  have H := zH h
  have HR : Hid ((signsL.drop 0).find? (signP l n i) = R) := zH hR
  have hg2 : ∀ v, (W.alloc (.cells v 137)).heap[4]? = some (.cells signsV tt fr) := fun v => (zB.alloc zL _).block 4 (Nat.lt_trans h.low h.box.lt) |>.trans hg1
  clear h hR hg1
  go_enter Tryd.func92, Tryd.ntmps92
  go_wp2_with (refine wpList_load_row rfl 148 _ rfl 4 rfl tt _ fr _ (hg2 _) Tryd.underlying148 rfl (by kernel_rfl) ?_)
  generalize hWA : World.alloc W _ = WA
  have BA : Hid (Below W.heap.size W WA) := zH (by rw [← hWA]; exact zB.alloc zL _)
  have KA : Hid (Blk WA W.heap.size 137 #[.string ByteArray.empty, .int .i64 0, .int .i64 0]) := zH (by rw [← hWA]; exact Blk.new _ _ _)
  have HA : Hid (PSt q a c sz l i WA) := zH (H.out.keep BA.out)
  have lq := H.out.box.lt
  obtain ⟨B, hB⟩ : ∃ B, W.heap.size = B := ⟨_, rfl⟩
  rw [hB] at lq KA
  rw [hB]
  have lqA := KA.out.lt
  have HB := zH hB
  have hfew := H.out.few
  have hle := H.out.le
  have i5 : (i : Int) ≤ 5000 := by omega
  have i0 : (0 : Int) ≤ (i : Int) := Int.natCast_nonneg _
  clear hWA hg2 hB hfew hle
  go_loopw [7, 9] (fun _ j wr => ∃ k : Nat, k ≤ 15 ∧ j = .int .i64 (k : Int) ∧ Hid ((signsL.drop k).find? (signP l n i) = R) ∧ Hid (Below WA.heap.size WA wr)) (fun _ j _ => 15 - (intOf j).toNat)
  case atStart => exact ⟨0, by omega, by go_num, HR, zH zB⟩
  case round =>
    obtain ⟨k, hk, rfl, hu, hw⟩ := hrel
    have Hw := hw
    clear hw
    have b1 : (0 : Int) ≤ (k : Int) := Int.natCast_nonneg _
    have KW : Blk wr B 137 #[.string ByteArray.empty, .int .i64 0, .int .i64 0] := KA.out.below Hw.out lqA
    have z0 : wr.cell? ⟨B, 0, none⟩ = some (.string ByteArray.empty) := KW.cell rfl
    have z1 : wr.cell? ⟨B, 1, none⟩ = some (.int .i64 0) := KW.cell rfl
    have z2 : wr.cell? ⟨B, 2, none⟩ = some (.int .i64 0) := KW.cell rfl
    have zf0 : wr.frozen? ⟨B, 0, none⟩ = false := KW.frozen 0
    have zf1 : wr.frozen? ⟨B, 1, none⟩ = false := KW.frozen 1
    have zf2 : wr.frozen? ⟨B, 2, none⟩ = false := KW.frozen 2
    have lB := KW.lt
    have HKW := zH KW
    have HP : Hid (PSt q a c sz l i wr) := zH (HA.out.keep Hw.out)
    obtain ⟨f0, f1, f2, f3, f4⟩ := HP.out.facts
    clear KW
    by_cases hlt : k < 15
    · obtain ⟨x, hx, _⟩ := signs_index k hlt wr
      have hidx : ∀ W, (Instr.index 148 (.agg signsV) (.int .i64 (k : Int))).run Tryd.prog W = .ok (.agg #[.string (txt x.1), .int .i64 (x.2.1 : Int), .int .i64 (x.2.2 : Int)]) W := fun W => by
        obtain ⟨x', hx', h⟩ := signs_index k hlt W
        rw [hx] at hx'
        injection hx' with hx'
        subst hx'
        exact h
      have hby : Bytes x.1 := by
        have : ∀ m ∈ signsL, ∀ n ∈ m.1, n < 256 := by decide
        exact this x (List.mem_iff_getElem?.2 ⟨k, hx⟩)
      have hf := find_drop1 (p := signP l n i) hx
      have hv := hu.out
      rw [hf] at hv
      obtain ⟨xt, xk, xl⟩ := x
      have Hby := zH hby
      by_cases hl : xl = n
      · subst hl
        obtain ⟨b, hb⟩ : ∃ b, isT l i xt = b := ⟨_, rfl⟩
        have hsp : signP l xl i (xt, xk, xl) = b := by rw [← hb]; simp [signP]
        rw [hsp] at hv
        have e1 : ((xl : Int) == (xl : Int)) = true := by simp
        have HN := zH (fun v => p_next xt hby b hb (HP.out.keep ((zB.alloc zL (.cells v 137)))))
        cases b with
        | true =>
          rw [if_pos rfl] at hv
          have HV := zH hv
          have ilt : Hid (i + 1 ≤ l.length) := zH (isT_lt hb)
          clear hu hv hx hby hf hb hsp
          go_wp2_with (first
            | (go_at_call 103; (with_reducible refine (HN.out _).mono ?_); rintro e w1 ⟨rfl, nq, rfl⟩))
          have vm := Mv.of_below (q := q) (BA.out.trans (Hw.out.mono (by have := HB.out; omega))) (by have := HB.out; omega)
          have vm2 := vm.trans (Mv.of_below (q := q) (((Below.refl wr.heap.size wr).alloc zL (.cells #[.string (txt xt), .int .i64 (xk : Int), .int .i64 (xl : Int)] 137))) (by omega))
          have hs2 := HP.out.keep (((Below.refl wr.heap.size wr).alloc zL (.cells #[.string (txt xt), .int .i64 (xk : Int), .int .i64 (xl : Int)] 137)))
          have st := hs2.step (j := i + 1) (u := .int .i64 ((i : Int) + 1)) (by go_num) ilt.out nq
          have hBW := HB.out
          have hv := HV.out
          subst hv
          have hmv := (((vm2.trans st.1).setNew (p := ⟨B, 0, none⟩) (.string (txt xt)) (by show q ≤ B; omega) (by show W.heap.size ≤ B; omega)).setNew (p := ⟨B, 1, none⟩) (.int .i64 (xk : Int)) (by show q ≤ B; omega) (by show W.heap.size ≤ B; omega)).setNew (p := ⟨B, 2, none⟩) (.int .i64 (xl : Int)) (by show q ≤ B; omega) (by show W.heap.size ≤ B; omega)
          have hps := ((st.2.setFar (p := ⟨B, 0, none⟩) (.string (txt xt)) (by show q < B; omega)).setFar (p := ⟨B, 1, none⟩) (.int .i64 (xk : Int)) (by show q < B; omega)).setFar (p := ⟨B, 2, none⟩) (.int .i64 (xl : Int)) (by show q < B; omega)
          have hka : Blk ((wr.alloc (.cells #[.string (txt xt), .int .i64 (xk : Int), .int .i64 (xl : Int)] 137)).drewN nq) B 137 #[.string ByteArray.empty, .int .i64 0, .int .i64 0] := HKW.out.alloc _
          have hkb : Blk _ B 137 _ := (((hka.far (p := ⟨q, 1, none⟩) (by show B ≠ q; omega) (.int .i64 ((i : Int) + 1))).set_ 0 (.string (txt xt))).set_ 1 (.int .i64 (xk : Int))).set_ 2 (.int .i64 (xl : Int))
          generalize hwf : World.setCell (World.setCell (World.setCell _ _ _) _ _) _ _ = wf
          have hmv' : Mv q W wf := by rw [← hwf]; exact hmv
          have hps' : PSt q a c sz l (i + 1) wf := by rw [← hwf]; exact hps
          have c0 : wf.cell? ⟨B, 0, none⟩ = some (.string (txt xt)) := by rw [← hwf]; exact hkb.cell rfl
          have c1 : wf.cell? ⟨B, 1, none⟩ = some (.int .i64 (xk : Int)) := by rw [← hwf]; exact hkb.cell rfl
          have c2 : wf.cell? ⟨B, 2, none⟩ = some (.int .i64 (xl : Int)) := by rw [← hwf]; exact hkb.cell rfl
          clear hwf hmv hps hkb vm vm2 hs2 st
          refine bodyPost_ret (v := .tuple #[.agg #[.string (txt xt), .int .i64 (xk : Int), .int .i64 (xl : Int)], .bool true]) (by simp [results, Tryd.results92, go_sem, c0, c1, c2]) rfl ?_
          exact ⟨rfl, hmv', hps'⟩
        | false =>
          rw [if_neg (by simp)] at hv
          have HV := zH hv
          clear hu hv hx hby hf hb hsp
          go_wp2_with (first
            | (go_at_call 103; (with_reducible refine (HN.out _).mono ?_); rintro e w1 ⟨rfl, nq, rfl⟩))
          go_roundw
          case rel => exact ⟨k + 1, by omega, by go_num, HV, zH (below_drewN (Hw.out.alloc Hw.out.size _) _)⟩
          case measure => simp [intOf]; omega
      · have hsp : signP l n i (xt, xk, xl) = false := by simp [signP, hl]
        rw [hsp, if_neg (by simp)] at hv
        have HV := zH hv
        have e1 : ((xl : Int) == (n : Int)) = false := by simp; omega
        clear hu hv hx hby hf hsp hl
        go_wp2_with fail
        go_roundw
        case rel => exact ⟨k + 1, by omega, by go_num, HV, zH (Hw.out.alloc Hw.out.size _)⟩
        case measure => simp [intOf]; omega
    · have hk15 : k = 15 := by omega
      subst hk15
      have hv := hu.out
      rw [show (signsL.drop 15) = [] from rfl, List.find?_nil] at hv
      subst hv
      have hdec : decide (((15 : Nat) : Int) < 15) = false := by decide
      clear hu
      go_wp2_with fail
      have vm := Mv.of_below (q := q) (BA.out.trans (Hw.out.mono (by have := HB.out; omega))) (by have := HB.out; omega)
      have hBW := HB.out
      have hmv := ((vm.setNew (p := ⟨B, 0, none⟩) (.string ByteArray.empty) (by show q ≤ B; omega) (by show W.heap.size ≤ B; omega)).setNew (p := ⟨B, 1, none⟩) (.int .i64 0) (by show q ≤ B; omega) (by show W.heap.size ≤ B; omega)).setNew (p := ⟨B, 2, none⟩) (.int .i64 0) (by show q ≤ B; omega) (by show W.heap.size ≤ B; omega)
      have hps := ((HP.out.setFar (p := ⟨B, 0, none⟩) (.string ByteArray.empty) (by show q < B; omega)).setFar (p := ⟨B, 1, none⟩) (.int .i64 0) (by show q < B; omega)).setFar (p := ⟨B, 2, none⟩) (.int .i64 0) (by show q < B; omega)
      have hkb : Blk _ B 137 _ := ((HKW.out.set_ 0 (.string ByteArray.empty)).set_ 1 (.int .i64 0)).set_ 2 (.int .i64 0)
      generalize hwf : World.setCell (World.setCell (World.setCell _ _ _) _ _) _ _ = wf
      have hmv' : Mv q W wf := by rw [← hwf]; exact hmv
      have hps' : PSt q a c sz l i wf := by rw [← hwf]; exact hps
      have c0 : wf.cell? ⟨B, 0, none⟩ = some (.string ByteArray.empty) := by rw [← hwf]; exact hkb.cell rfl
      have c1 : wf.cell? ⟨B, 1, none⟩ = some (.int .i64 0) := by rw [← hwf]; exact hkb.cell rfl
      have c2 : wf.cell? ⟨B, 2, none⟩ = some (.int .i64 0) := by rw [← hwf]; exact hkb.cell rfl
      clear hwf hmv hps hkb vm z0 z1 z2
      refine bodyPost_ret (v := .tuple #[.agg #[.string ByteArray.empty, .int .i64 0, .int .i64 0], .bool false]) (by simp [results, Tryd.results92, go_sem, c0, c1, c2]) rfl ?_
      exact ⟨rfl, hmv', hps'⟩
end
end Go.Proofs.YtpkggobhhieeoaaDoor
