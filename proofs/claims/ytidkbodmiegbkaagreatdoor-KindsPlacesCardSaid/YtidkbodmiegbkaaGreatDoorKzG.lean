/- Chapter 09, plain words, outright: a part by itself; names ahead that a closed part does not see. -/
import Derived.Test.YtidkbodmiegbkaaGreatDoorKzB
import Derived.Test.YtidkbodmiegbkaaGreatDoorLM4
namespace Go.Proofs.YtidkbodmiegbkaaGreatDoor
set_option linter.unusedSimpArgs false
set_option linter.unusedVariables false
open Go.RowKit

/-- nothing stands free in a tree under these names -/
def Shut (f : Nat) (t : Tr) (vs : List (List Nat)) : Prop := ∀ x, some x ∉ frS f t vs
theorem shut_iff {f : Nat} {t : Tr} {vs : List (List Nat)} : Shut f t vs ↔ frR f t vs [] = [] := by
  constructor
  · intro h
    cases e : frR f t vs [] with
    | nil => rfl
    | cons x l =>
      have := (fr_mem f t vs [] x).1 (by rw [e]; simp)
      rcases this with h1 | h1
      · simp at h1
      · exact absurd h1 (h x)
  · intro h x hx
    have := (fr_mem f t vs [] x).2 (.inr hx)
    rw [h] at this
    simp at this
theorem Shut.kid {f k : Nat} {s : List Nat} {n : Int} {ks : List Tr} {vs : List (List Nat)} (h : Shut (f + 1) (.node k s n ks) vs) {j : Nat} {t : Tr} (ht : ks[j]? = some t) : Shut f t (vsK k s vs j) := by
  intro x hx
  apply h x
  rw [frS_succ]
  refine List.mem_cons.2 (.inr (List.mem_flatMap.2 ⟨j, List.mem_range.2 (List.getElem?_eq_some_iff.1 ht).1, ?_⟩))
  unfold kidFS
  rw [ht]
  exact hx
theorem Shut.top {f k : Nat} {s : List Nat} {n : Int} {ks : List Tr} {vs : List (List Nat)} (h : Shut (f + 1) (.node k s n ks) vs) : k = 7 → s ∈ vs := by
  intro hk
  rcases Classical.em (s ∈ vs) with e | e
  · exact e
  · exfalso
    apply h s
    rw [frS_succ]
    refine List.mem_cons.2 (.inl ?_)
    simp [flagT, hk, e]
theorem kindK_bnd {k : Nat} {b c : Bool} {of : List Int} (h : k = 7 → b = c) : kindK k b of = kindK k c of := by
  by_cases h7 : k = 7
  · rw [h h7]
  · unfold kindK
    simp only [h7, if_false]
theorem vsK_pre (k : Nat) (s : List Nat) (pre vs : List (List Nat)) (i : Nat) : vsK k s (pre ++ vs) i = pre ++ vsK k s vs i := by
  unfold vsK
  split
  · rw [List.append_assoc]
  · rfl
/-- names ahead that a shut tree does not see -/
theorem kR_pre : ∀ {f : Nat} {t : Tr} {vs : List (List Nat)} (pre : List (List Nat)), Shut f t vs → kR f t (pre ++ vs) = kR f t vs
  | 0, t, vs, pre, h => rfl
  | f + 1, .node k s n ks, vs, pre, h => by
    have e : ofK f k s ks (pre ++ vs) ks.length = ofK f k s ks vs ks.length := by
      unfold ofK
      refine List.map_congr_left fun i hi => ?_
      unfold kidK
      rcases ht : ks[i]? with _ | t
      · rfl
      · simp only
        rw [vsK_pre]
        exact kR_pre pre (h.kid ht)
    rw [kR_succ, kR_succ, e]
    split
    · rfl
    · refine kindK_bnd fun h7 => ?_
      have := h.top h7
      simp [this]
theorem ksR_pre : ∀ {f : Nat} {t : Tr} {vs : List (List Nat)} (pre : List (List Nat)), Shut f t vs → ksR f t (pre ++ vs) = ksR f t vs
  | 0, t, vs, pre, h => rfl
  | f + 1, .node k s n ks, vs, pre, h => by
    rw [ksR_succ, ksR_succ, kR_pre pre h]
    congr 1
    have key : ∀ L : List Nat, L.flatMap (kidS f k s ks (pre ++ vs)) = L.flatMap (kidS f k s ks vs) := by
      intro L
      have e : kidS f k s ks (pre ++ vs) = kidS f k s ks vs := by
        funext i
        unfold kidS
        rcases ht : ks[i]? with _ | t
        · rfl
        · simp only
          rw [vsK_pre]
          exact ksR_pre pre (h.kid ht)
      rw [e]
    exact key _
theorem wR_pre : ∀ {f : Nat} {t : Tr} {vs : List (List Nat)} (pre : List (List Nat)) (p : Nat), Shut f t vs → wR f t (pre ++ vs) p = wR f t vs p
  | 0, t, vs, pre, p, h => rfl
  | f + 1, .node k s n ks, vs, pre, p, h => by
    have e : ∀ j, fstW f k s ks (pre ++ vs) p j = fstW f k s ks vs p j := by
      intro j
      induction j with
      | zero => rfl
      | succ j ih =>
        have e1 : kidW f k s ks (pre ++ vs) p j = kidW f k s ks vs p j := by
          unfold kidW
          rcases ht : ks[j]? with _ | t
          · rfl
          · rcases hq : (placesL ks (p + 1))[j]? with _ | q
            · rfl
            · simp only
              rw [vsK_pre]
              exact wR_pre pre q (h.kid ht)
        simp only [fstW]
        rw [ih, e1]
    rw [wR_succ, wR_succ, e, kR_pre pre h]
theorem ksR_up : ∀ {f : Nat} {t : Tr} {vs : List (List Nat)}, t.deep ≤ f → ksR (f + 1) t vs = ksR f t vs
  | 0, .node k s n ks, vs, h => by simp only [Tr.deep] at h; omega
  | f + 1, .node k s n ks, vs, h => by
    have hd := deep_one h
    rw [ksR_succ, ksR_succ, kR_up _ _ _ h]
    congr 1
    have e : kidS (f + 1) k s ks vs = kidS f k s ks vs := by
      funext i
      unfold kidS
      rcases ht : ks[i]? with _ | t
      · rfl
      · simp only
        exact ksR_up (Nat.le_trans (deep_at ht) hd)
    rw [e]
theorem kflat_get {f k : Nat} {s : List Nat} {ks : List Tr} {vs : List (List Nat)} (hd : deepL ks ≤ f) {j m : Nat} {t : Tr} (ht : ks[j]? = some t) (hm : m < t.size) : ∀ n, j < n → n ≤ ks.length → ((List.range n).flatMap (kidS f k s ks vs))[sizeL (ks.take j) + m]? = (ksR f t (vsK k s vs j))[m]?
  | 0, h, _ => by omega
  | n + 1, h, hn => by
    rw [List.range_succ, List.flatMap_append]
    have hl := kflat_len (f := f) (k := k) (s := s) (vs := vs) hd n (by omega)
    by_cases e : j = n
    · subst e
      rw [List.getElem?_append_right (by rw [hl]; omega), hl]
      simp only [List.flatMap_cons, List.flatMap_nil, List.append_nil, kidS, ht]
      congr 1
      omega
    · rw [List.getElem?_append_left]
      · exact kflat_get hd ht hm n (by omega) (by omega)
      · rw [hl]
        have h1 := sizeL_take_succ ht
        have h2 : sizeL (ks.take (j + 1)) ≤ sizeL (ks.take n) := by
          have hmono : ∀ (ts : List Tr) (r : Nat), sizeL (ts.take r) ≤ sizeL ts := by
            intro ts
            induction ts with
            | nil => intro r; simp [sizeL]
            | cons t ts ih2 => intro r; cases r with
              | zero => simp [sizeL]
              | succ r => simp only [List.take_succ_cons, sizeL]; have := ih2 r; omega
          have := hmono (ks.take n) (j + 1)
          rwa [List.take_take, Nat.min_eq_left (by omega)] at this
        omega
theorem subL_at : ∀ {ts : List Tr} {i : Nat} {u : Tr}, subL ts i = some u → ∃ j t, ts[j]? = some t ∧ sizeL (ts.take j) ≤ i ∧ i < sizeL (ts.take j) + t.size ∧ subT t (i - sizeL (ts.take j)) = some u
  | [], i, u, h => by simp [subL] at h
  | t :: ts, i, u, h => by
    simp only [subL] at h
    by_cases hi : i < t.size
    · rw [if_pos hi] at h
      exact ⟨0, t, rfl, by simp [sizeL], by simp [sizeL]; omega, by simpa [sizeL] using h⟩
    · rw [if_neg hi] at h
      obtain ⟨j, t', h1, h2, h3, h4⟩ := subL_at h
      refine ⟨j + 1, t', h1, ?_, ?_, ?_⟩
      · simp only [List.take_succ_cons, sizeL]; omega
      · simp only [List.take_succ_cons, sizeL]; omega
      · simp only [List.take_succ_cons, sizeL]
        rw [show i - (t.size + sizeL (ts.take j)) = i - t.size - sizeL (ts.take j) by omega]
        exact h4
/-- a part of a tree in which none is wrong: under which names it stands, and its kinds -/
theorem part_in : ∀ {f : Nat} {t : Tr} {vs : List (List Nat)} {p i : Nat} {u : Tr}, t.deep ≤ f → wR f t vs p < 0 → subT t i = some u → ∃ vs', u.deep ≤ f ∧ wR f u vs' (p + i) < 0 ∧ ∀ k, k < u.size → (ksR f t vs)[i + k]? = (ksR f u vs')[k]?
  | 0, .node k s n ks, vs, p, i, u, hd, hw, hu => by simp only [Tr.deep] at hd; omega
  | f + 1, .node k s n ks, vs, p, 0, u, hd, hw, hu => by
    simp only [subT] at hu
    injection hu with hu
    subst hu
    exact ⟨vs, hd, hw, fun k _ => by rw [Nat.zero_add]⟩
  | f + 1, .node k s n ks, vs, p, i + 1, u, hd, hw, hu => by
    have hd1 := deep_one hd
    simp only [subT] at hu
    obtain ⟨j, t, ht, h1, h2, h3⟩ := subL_at hu
    have hj := (List.getElem?_eq_some_iff.1 ht).1
    have hf := (wR_neg.1 hw).1
    have hk := fstW_neg hf j hj
    have hq := places_get (p := p + 1) hj
    unfold kidW at hk
    rw [ht, hq] at hk
    simp only at hk
    obtain ⟨vs', g1, g2, g3⟩ := part_in (Nat.le_trans (deep_at ht) hd1) hk h3
    refine ⟨vs', by omega, ?_, fun m hm => ?_⟩
    · rw [wR_up g1, show p + (i + 1) = p + 1 + sizeL (ks.take j) + (i - sizeL (ks.take j)) by omega]
      exact g2
    · rw [ksR_up g1, ksR_succ, ← g3 m hm]
      rw [show i + 1 + m = (i + m) + 1 by omega, List.getElem?_cons_succ]
      have hs := sub_some t (i - sizeL (ks.take j)) (by omega)
      obtain ⟨u', e1, e2, _⟩ := hs
      rw [h3] at e1
      injection e1 with e1
      subst e1
      have := kflat_get (f := f) (k := k) (s := s) (vs := vs) hd1 ht (m := i - sizeL (ks.take j) + m) (by omega) ks.length hj (Nat.le_refl _)
      rw [show sizeL (ks.take j) + (i - sizeL (ks.take j) + m) = i + m by omega] at this
      exact this
/-- a shut part by itself -/
theorem part_shut {t : Tr} {i : Nat} {u : Tr} (hd : t.deep ≤ 32) (hw : wR 32 t [] 0 < 0) (hu : subT t i = some u) (hs : frR 32 u [] [] = []) : wR 32 u [] 0 < 0 ∧ ∀ k, k < u.size → (ksR 32 t [])[i + k]? = (ksR 32 u [])[k]? := by
  obtain ⟨vs', h1, h2, h3⟩ := part_in hd hw hu
  have hsh := shut_iff.2 hs
  have e1 := wR_pre vs' (0 + i) hsh
  have e2 := ksR_pre vs' hsh
  rw [List.append_nil] at e1 e2
  rw [e1] at h2
  exact ⟨(wR_place (p := 0 + i) (q := 0)).1.1 h2, fun k hk => by rw [h3 k hk, e2]⟩
end Go.Proofs.YtidkbodmiegbkaaGreatDoor
