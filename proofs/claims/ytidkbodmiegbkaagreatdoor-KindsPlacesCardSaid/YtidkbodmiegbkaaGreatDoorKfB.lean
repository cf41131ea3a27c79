/- Chapter 09, plain words: the free names, place by place. -/
import Derived.Test.YtidkbodmiegbkaaGreatDoorKfA
namespace Go.Proofs.YtidkbodmiegbkaaGreatDoor
set_option linter.unusedSimpArgs false
set_option linter.unusedVariables false
open Go.RowKit

/-- the name that stands free here -/
def flagT (u : Tr) (vs : List (List Nat)) : Option (List Nat) := match u with | .node k s _ _ => if k = 7 ∧ s ∉ vs then some s else none
/-- the free names of a tree, place by place -/
def frS : Nat → Tr → List (List Nat) → List (Option (List Nat))
  | 0, _, _ => []
  | f + 1, .node k s n ks, vs => flagT (.node k s n ks) vs :: (List.range ks.length).flatMap fun i => match ks[i]? with | some t => frS f t (vsK k s vs i) | none => []
def kidFS (f k : Nat) (s : List Nat) (ks : List Tr) (vs : List (List Nat)) (i : Nat) : List (Option (List Nat)) := match ks[i]? with | some t => frS f t (vsK k s vs i) | none => []
theorem frS_succ (f k : Nat) (s : List Nat) (n : Int) (ks : List Tr) (vs : List (List Nat)) : frS (f + 1) (.node k s n ks) vs = flagT (.node k s n ks) vs :: (List.range ks.length).flatMap (kidFS f k s ks vs) := rfl
theorem fsflat_len {f k : Nat} {s : List Nat} {ks : List Tr} {vs : List (List Nat)} (ih : ∀ (t : Tr) (vs : List (List Nat)), t.deep ≤ f → (frS f t vs).length = t.size) (hd : deepL ks ≤ f) : ∀ j, j ≤ ks.length → ((List.range j).flatMap (kidFS f k s ks vs)).length = sizeL (ks.take j)
  | 0, _ => by simp [sizeL]
  | j + 1, hj => by
    obtain ⟨t2, ht2⟩ : ∃ t, ks[j]? = some t := ⟨_, List.getElem?_eq_getElem (by omega)⟩
    rw [List.range_succ, List.flatMap_append, List.length_append, fsflat_len ih hd j (by omega), sizeL_take_succ ht2]
    simp only [List.flatMap_cons, List.flatMap_nil, List.append_nil, kidFS, ht2]
    rw [ih t2 _ (Nat.le_trans (deep_at ht2) hd)]
theorem frS_len : ∀ (f : Nat) (t : Tr) (vs : List (List Nat)), t.deep ≤ f → (frS f t vs).length = t.size
  | 0, .node k s n ks, vs, hd => by simp only [Tr.deep] at hd; omega
  | f + 1, .node k s n ks, vs, hd => by
    rw [frS_succ, List.length_cons, fsflat_len (frS_len f) (deep_one hd) ks.length (Nat.le_refl _), List.take_length]
    simp only [Tr.size]
    omega
theorem fr_mem : ∀ (f : Nat) (t : Tr) (vs F : List (List Nat)) (x : List Nat), x ∈ frR f t vs F ↔ x ∈ F ∨ some x ∈ frS f t vs
  | 0, t, vs, F, x => by simp [frR, frS]
  | f + 1, .node k s n ks, vs, F, x => by
    have key : ∀ j, x ∈ fstF f k s ks vs F j ↔ x ∈ F ∨ some x ∈ (List.range j).flatMap (kidFS f k s ks vs) := by
      intro j
      induction j with
      | zero => simp [fstF]
      | succ j ih =>
        simp only [fstF]
        rw [List.range_succ, List.flatMap_append, List.mem_append]
        simp only [List.flatMap_cons, List.flatMap_nil, List.append_nil]
        unfold kidF
        cases e : ks[j]? with
        | none => simp only [kidFS, e]; rw [ih]; simp
        | some t => simp only [kidFS, e]; rw [fr_mem f t _ _ x, ih, or_assoc]
    rw [frR_succ, frS_succ, List.mem_cons]
    have hfl : flagT (.node k s n ks) vs = if k = 7 ∧ s ∉ vs then some s else none := rfl
    rw [hfl]
    by_cases h : k = 7 ∧ s ∉ vs
    · rw [if_pos h, if_pos h, List.mem_cons, key]
      simp only [Option.some.injEq]
      constructor
      · rintro (e | e | e)
        · exact .inr (.inl e)
        · exact .inl e
        · exact .inr (.inr e)
      · rintro (e | e | e)
        · exact .inr (.inl e)
        · exact .inl e
        · exact .inr (.inr e)
    · rw [if_neg h, if_neg h, key]
      simp
theorem und_free {l : List ND} : ∀ {f : Nat} {t : Tr} {vs : List (List Nat)} {p : Nat}, t.Good → t.deep ≤ f → Und l vs p t → ∀ i, i < t.size → ∃ u vs', u.Good ∧ Und l vs' (p + i) u ∧ u.deep ≤ f ∧ (frS f t vs)[i]? = some (flagT u vs')
  | 0, .node k s n ks, vs, p, hg, hd, h, i, hi => by simp only [Tr.deep] at hd; omega
  | f + 1, .node k s n ks, vs, p, hg, hd, h, i, hi => by
    have hd1 := deep_one hd
    rcases i with _ | i
    · exact ⟨_, vs, hg, h, hd, by rw [frS_succ]; rfl⟩
    · simp only [Tr.size] at hi
      rw [frS_succ]
      simp only [List.getElem?_cons_succ]
      have key : ∀ j, j ≤ ks.length → ∀ i, i < sizeL (ks.take j) → ∃ u vs', u.Good ∧ Und l vs' (p + 1 + i) u ∧ u.deep ≤ f ∧ ((List.range j).flatMap (kidFS f k s ks vs))[i]? = some (flagT u vs') := by
        intro j
        induction j with
        | zero => intro _ i hi; simp [sizeL] at hi
        | succ j ih =>
          intro hj i hi
          obtain ⟨t, ht⟩ : ∃ t, ks[j]? = some t := ⟨_, List.getElem?_eq_getElem (by omega)⟩
          have hlen := fsflat_len (f := f) (k := k) (s := s) (vs := vs) (frS_len f) hd1 j (by omega)
          rw [List.range_succ, List.flatMap_append]
          rw [sizeL_take_succ ht] at hi
          by_cases hlt : i < sizeL (ks.take j)
          · obtain ⟨u, vs', h0, h1, h2, h3⟩ := ih (by omega) i hlt
            exact ⟨u, vs', h0, h1, h2, by rw [List.getElem?_append_left (by omega)]; exact h3⟩
          · have hq := places_get (p := p + 1) (show j < ks.length by omega)
            have hk := Und.kid h ht hq
            obtain ⟨u, vs', h0, h1, h2, h3⟩ := und_free (good_at hg.2 ht) (Nat.le_trans (deep_at ht) hd1) hk (i - sizeL (ks.take j)) (by omega)
            refine ⟨u, vs', h0, ?_, h2, ?_⟩
            · rw [show p + 1 + i = p + 1 + sizeL (ks.take j) + (i - sizeL (ks.take j)) by omega]; exact h1
            · rw [List.getElem?_append_right (by omega), hlen]
              simp only [List.flatMap_cons, List.flatMap_nil, List.append_nil, kidFS, ht]
              exact h3
      obtain ⟨u, vs', h0, h1, h2, h3⟩ := key ks.length (Nat.le_refl _) i (by rw [List.take_length]; omega)
      exact ⟨u, vs', h0, by rw [show p + (i + 1) = p + 1 + i by omega]; exact h1, by omega, h3⟩
end Go.Proofs.YtidkbodmiegbkaaGreatDoor
