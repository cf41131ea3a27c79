/- The tokens that a text is cut into, as the parser wants them: few, each of a kind. -/
import Derived.Test.YtlenenfgedgmhaaDoorCatch
namespace Go.Proofs.YtlenenfgedgmhaaDoor
set_option linter.unusedSimpArgs false
set_option linter.unusedVariables false

theorem step_good {r : List Nat} {k n : Nat} {s : List Nat} {v : Int} {p : Int} (h : stepP r = (some (k, s, v), n)) : TokG ⟨k, s, v, p⟩ := by
  unfold TokG
  simp only
  unfold stepP at h
  split at h
  · simp at h
  · rename_i c t
    split at h
    · split at h
      · injection h with h1 h2
        injection h1 with h1
        injection h1 with h1 h3
        injection h3 with h3 h4
        left
        exact ⟨by rw [← h1]; rfl, by rw [← h4]; exact Int.natCast_nonneg _⟩
      · simp at h
    · split at h
      · split at h
        · injection h with h1 h2
          injection h1 with h1
          injection h1 with h1 h3
          injection h3 with h3 h4
          by_cases hw : (c :: t).takeWhile furtherN ∈ wordsL
          · rw [if_pos hw] at h1
            exact .inr (.inr (.inr (.inl ⟨by rw [← h1]; rfl, by rw [← h3]; exact hw⟩)))
          · rw [if_neg hw] at h1
            exact .inr (.inr (.inl (by rw [← h1]; rfl)))
        · simp at h
      · split at h
        · simp at h
        · rename_i hm
          injection h with h1 h2
          injection h1 with h1
          injection h1 with h1 h3
          injection h3 with h3 h4
          refine .inr (.inr (.inr (.inr ⟨by rw [← h1]; rfl, ?_⟩)))
          rw [← h3]
          unfold markN at hm ⊢
          cases hf : marksL.find? (fun m => m.isPrefixOf (c :: t)) with
          | none => rw [hf] at hm; exfalso; revert hm; simp only; split <;> simp
          | some m => exact List.mem_of_find?_eq_some hf
theorem scanT_good {l : List Nat} (hl : Bytes l) : ∀ (f i : Nat) (o : List Tok), (∀ t ∈ o, TokG t) → o.length ≤ i → i ≤ l.length → (scanT l f i o).2.2 = 0 → (∀ t ∈ (scanT l f i o).1, TokG t) ∧ (scanT l f i o).1.length ≤ l.length
  | 0, i, o, ho, hi, hil, _ => ⟨by rw [scanT]; exact ho, by rw [scanT]; simp only; omega⟩
  | f + 1, i, o, ho, hi, hil, he => by
    rw [scanT] at he ⊢
    cases hc : l[i]? with
    | none => exact ⟨ho, by simp only; omega⟩
    | some c =>
      rw [hc] at he
      have hlt := (List.getElem?_eq_some_iff.1 hc).1
      simp only at he ⊢
      by_cases h1 : c = 32 ∨ c = 10
      · rw [if_pos h1] at he ⊢
        exact scanT_good hl f (i + 1) o ho (by omega) (by omega) he
      · rw [if_neg h1] at he ⊢
        by_cases h2 : c = 34
        · rw [if_pos h2] at he ⊢
          by_cases h3 : (quoteAt l i).2.2 = 0
          · rw [if_pos h3] at he ⊢
            obtain ⟨a1, a2, a3⟩ := unq_some (l.length + 1) (i + 1) l [] (quoteAt l i).1 (quoteAt l i).2.1 hl (fun x hx => by cases hx) (by show quoteAt l i = _; rw [← h3])
            refine scanT_good hl f _ _ (fun t ht => ?_) (by simp; omega) a3 he
            rcases List.mem_append.1 ht with ht | ht
            · exact ho t ht
            · simp at ht
              subst ht
              exact .inr (.inl rfl)
          · rw [if_neg h3] at he
            simp at he
        · rw [if_neg h2] at he ⊢
          cases hs : (stepP (l.drop i)).1 with
          | none => rw [hs] at he; simp at he
          | some x =>
            obtain ⟨k, s, v⟩ := x
            rw [hs] at he
            simp only at he ⊢
            have hst : stepP (l.drop i) = (some (k, s, v), (stepP (l.drop i)).2) := by rw [← hs]
            obtain ⟨b1, b2, _⟩ := step_some (fun x hx => hl x (List.mem_of_mem_drop hx)) hst
            rw [List.length_drop] at b2
            refine scanT_good hl f _ _ (fun t ht => ?_) (by simp; omega) (by omega) he
            rcases List.mem_append.1 ht with ht | ht
            · exact ho t ht
            · simp at ht
              subst ht
              exact step_good hst
theorem scanT_place {l : List Nat} : ∀ (f i : Nat) (o : List Tok), (∀ t ∈ o, 0 ≤ t.place) → ∀ t ∈ (scanT l f i o).1, 0 ≤ t.place
  | 0, i, o, ho => by rw [scanT]; exact ho
  | f + 1, i, o, ho => by
    have snoc : ∀ (x : Tok), 0 ≤ x.place → ∀ t ∈ o ++ [x], 0 ≤ t.place := fun x hx t ht => by
      rcases List.mem_append.1 ht with ht | ht
      · exact ho t ht
      · simp at ht; subst ht; exact hx
    rw [scanT]
    cases hc : l[i]? with
    | none => exact ho
    | some c =>
      simp only
      by_cases h1 : c = 32 ∨ c = 10
      · rw [if_pos h1]; exact scanT_place f (i + 1) o ho
      · rw [if_neg h1]
        by_cases h2 : c = 34
        · rw [if_pos h2]
          by_cases h3 : (quoteAt l i).2.2 = 0
          · rw [if_pos h3]; exact scanT_place f _ _ (snoc _ (Int.natCast_nonneg _))
          · rw [if_neg h3]; intro t ht; cases ht
        · rw [if_neg h2]
          cases hs : (stepP (l.drop i)).1 with
          | none => intro t ht; cases ht
          | some x =>
            obtain ⟨k, s, v⟩ := x
            exact scanT_place f _ _ (snoc _ (Int.natCast_nonneg _))
theorem scan_place {l : List Nat} : ∀ t ∈ (scanN l).1, 0 ≤ t.place := by
  unfold scanN
  split
  · intro t ht; cases ht
  · exact scanT_place _ _ _ (fun t ht => by cases ht)
theorem scan_good {l : List Nat} (hl : Bytes l) (he : (scanN l).2.2 = 0) : (∀ t ∈ (scanN l).1, TokG t) ∧ (scanN l).1.length ≤ 4096 ∧ l.length ≤ 4096 := by
  unfold scanN at he ⊢
  by_cases h : 4096 < l.length
  · rw [if_pos h] at he; simp at he
  · rw [if_neg h] at he ⊢
    obtain ⟨h1, h2⟩ := scanT_good hl (l.length + 1) 0 [] (by simp) (Nat.le_refl _) (Nat.zero_le _) he
    exact ⟨h1, by omega, by omega⟩
end Go.Proofs.YtlenenfgedgmhaaDoor
