/- Chapter 09, plain words, outright: what has a kind has nothing free; a node above an expression. -/
import Derived.Test.YtidkbodmiegbkaaGreatDoorKfB
namespace Go.Proofs.YtidkbodmiegbkaaGreatDoor
set_option linter.unusedSimpArgs false
set_option linter.unusedVariables false
open Go.RowKit

/-- where no node is wrong, nothing is free -/
theorem wR_free : ∀ {f : Nat} {t : Tr} {vs : List (List Nat)} {p : Nat} (F : List (List Nat)), t.deep ≤ f → wR f t vs p < 0 → frR f t vs F = F
  | 0, .node k s n ks, vs, p, F, hd, h => by simp only [Tr.deep] at hd; omega
  | f + 1, .node k s n ks, vs, p, F, hd, h => by
    have hd1 := deep_one hd
    rw [wR_succ] at h
    split at h
    · omega
    · next hf =>
      have hf : fstW f k s ks vs p ks.length < 0 := by omega
      split at h
      · omega
      · next hk =>
        have key : ∀ j, j ≤ ks.length → fstF f k s ks vs F j = F := by
          intro j
          induction j with
          | zero => intro _; rfl
          | succ j ih =>
            intro hj
            have h1 := fstW_neg hf j (by omega)
            obtain ⟨t, ht⟩ : ∃ t, ks[j]? = some t := ⟨_, List.getElem?_eq_getElem (by omega)⟩
            have hq := places_get (p := p + 1) (show j < ks.length by omega)
            unfold kidW at h1
            rw [ht, hq] at h1
            simp only [fstF]
            rw [ih (by omega)]
            unfold kidF
            rw [ht]
            exact wR_free F (Nat.le_trans (deep_at ht) hd1) h1
        rw [frR_succ, key _ (Nat.le_refl _)]
        rw [if_neg]
        rintro ⟨rfl, hs⟩
        apply hk
        rw [kR_succ]
        split
        · rfl
        · simp [kindK, hs]
/-- a node at which none is wrong, and its parts -/
theorem wR_neg {f k : Nat} {s : List Nat} {n : Int} {ks : List Tr} {vs : List (List Nat)} {p : Nat} : wR (f + 1) (.node k s n ks) vs p < 0 ↔ fstW f k s ks vs p ks.length < 0 ∧ kR (f + 1) (.node k s n ks) vs ≠ 0 := by
  rw [wR_succ]
  split
  · constructor
    · intro h; omega
    · intro h; omega
  · split
    · constructor
      · intro h; omega
      · intro h; exact absurd (by assumption) h.2
    · constructor
      · intro h; exact ⟨by omega, by assumption⟩
      · intro h; omega
theorem wR_up : ∀ {f : Nat} {t : Tr} {vs : List (List Nat)} {p : Nat}, t.deep ≤ f → wR (f + 1) t vs p = wR f t vs p
  | 0, .node k s n ks, vs, p, h => by simp only [Tr.deep] at h; omega
  | f + 1, .node k s n ks, vs, p, h => by
    have hd := deep_one h
    have e : ∀ j, fstW (f + 1) k s ks vs p j = fstW f k s ks vs p j := by
      intro j
      induction j with
      | zero => rfl
      | succ j ih =>
        have e1 : kidW (f + 1) k s ks vs p j = kidW f k s ks vs p j := by
          unfold kidW
          rcases ht : ks[j]? with _ | t
          · rfl
          · rcases hq : (placesL ks (p + 1))[j]? with _ | q
            · rfl
            · simp only
              exact wR_up (Nat.le_trans (deep_at ht) hd)
        simp only [fstW]
        rw [ih, e1]
    rw [wR_succ, wR_succ, e, kR_up _ _ _ h]
theorem wR_fuel {f g : Nat} {t : Tr} {vs : List (List Nat)} {p : Nat} (hf : t.deep ≤ f) (hg : f ≤ g) : wR g t vs p = wR f t vs p := by
  obtain ⟨d, rfl⟩ := Nat.exists_eq_add_of_le hg
  induction d with
  | zero => rfl
  | succ d ih => rw [show f + (d + 1) = f + d + 1 by omega, wR_up (by omega)]; exact ih (by omega)
/-- where the first wrong one is, does not hang on where the whole stands, but for its place -/
theorem wR_place : ∀ {f : Nat} {t : Tr} {vs : List (List Nat)} {p q : Nat}, (wR f t vs p < 0 ↔ wR f t vs q < 0) ∧ (0 ≤ wR f t vs p → wR f t vs p - (p : Int) = wR f t vs q - (q : Int))
  | 0, t, vs, p, q => ⟨Iff.rfl, fun h => by simp [wR] at h⟩
  | f + 1, .node k s n ks, vs, p, q => by
    have key : ∀ j, j ≤ ks.length → (fstW f k s ks vs p j < 0 ↔ fstW f k s ks vs q j < 0) ∧ (0 ≤ fstW f k s ks vs p j → fstW f k s ks vs p j - (p : Int) = fstW f k s ks vs q j - (q : Int)) := by
      intro j
      induction j with
      | zero => intro _; exact ⟨Iff.rfl, fun h => by simp [fstW] at h⟩
      | succ j ih =>
        intro hj
        obtain ⟨t, ht⟩ : ∃ t, ks[j]? = some t := ⟨_, List.getElem?_eq_getElem (by omega)⟩
        have h1 := places_get (p := p + 1) (show j < ks.length by omega)
        have h2 := places_get (p := q + 1) (show j < ks.length by omega)
        have i := ih (by omega)
        have w := wR_place (f := f) (t := t) (vs := vsK k s vs j) (p := p + 1 + sizeL (ks.take j)) (q := q + 1 + sizeL (ks.take j))
        have e1 : kidW f k s ks vs p j = wR f t (vsK k s vs j) (p + 1 + sizeL (ks.take j)) := by unfold kidW; rw [ht, h1]
        have e2 : kidW f k s ks vs q j = wR f t (vsK k s vs j) (q + 1 + sizeL (ks.take j)) := by unfold kidW; rw [ht, h2]
        simp only [fstW]
        rw [e1, e2]
        by_cases hp : fstW f k s ks vs p j < 0
        · rw [if_pos hp, if_pos (i.1.1 hp)]
          exact ⟨w.1, fun h => by have := w.2 h; push_cast at this; omega⟩
        · rw [if_neg hp, if_neg (fun h => hp (i.1.2 h))]
          exact i
    have kk := key _ (Nat.le_refl _)
    rw [wR_succ, wR_succ]
    by_cases hp : 0 ≤ fstW f k s ks vs p ks.length
    · have hq : 0 ≤ fstW f k s ks vs q ks.length := by
        rcases Int.lt_or_le (fstW f k s ks vs q ks.length) 0 with h | h
        · have := kk.1.2 h; omega
        · exact h
      rw [if_pos hp, if_pos hq]
      exact kk
    · have hq : ¬ 0 ≤ fstW f k s ks vs q ks.length := by
        have := kk.1.1 (by omega); omega
      rw [if_neg hp, if_neg hq]
      split
      · exact ⟨by omega, fun _ => by omega⟩
      · exact ⟨Iff.rfl, fun h => by omega⟩
/-- one node above a tree -/
def aboveT (a : Nat) (t : Tr) : Tr := .node a [] 0 [t]
theorem above_good {a : Nat} {t : Tr} (ha : Shape a [] 0 [t]) (hg : t.Good) : (aboveT a t).Good := ⟨⟨ha, (fun x hx => by simp at hx), by omega, by omega⟩, hg, trivial⟩
theorem above_deep (a : Nat) (t : Tr) : (aboveT a t).deep = t.deep + 1 := by simp [aboveT, Tr.deep, deepL]
theorem above_size (a : Nat) (t : Tr) : (aboveT a t).size = t.size + 1 := by simp [aboveT, Tr.size, sizeL]; omega
/-- the kind that each of the five asks -/
theorem above_kind {a : Nat} {t : Tr} (ha : a = 16 ∨ a = 19 ∨ a = 29 ∨ a = 17 ∨ a = 14) (hd : t.deep ≤ 31) (hw : wR 32 t [] 0 < 0) : kR 32 (aboveT a t) [] = oneK a (kR 32 t []) := by
  have hk := wR_kind (by omega) hw
  have e : kR 31 t [] = kR 32 t [] := (kR_fuel hd (by omega)).symm
  have ha1 : ¬ (31 ≤ a ∧ a ≤ 34) := by omega
  have hv : vsK a [] [] 0 = [] := by unfold vsK; rw [if_neg (by omega)]
  unfold aboveT
  rw [show (32 : Nat) = 31 + 1 from rfl, kR_succ]
  have h0 : ofK 31 a [] [t] [] 1 = [kR 32 t []] := by
    simp [ofK, List.range_succ, kidK, hv, e]
  rw [show [t].length = 1 from rfl, h0]
  rw [if_neg (by simp [hk])]
  rcases ha with rfl | rfl | rfl | rfl | rfl <;> simp [kindK]
theorem above_wrong {a : Nat} {t : Tr} (ha : a = 16 ∨ a = 19 ∨ a = 29 ∨ a = 17 ∨ a = 14) (hd : t.deep ≤ 31) (hw : wR 32 t [] 0 < 0) : wR 32 (aboveT a t) [] 0 = if oneK a (kR 32 t []) = 0 then 0 else -1 := by
  have hk := above_kind ha hd hw
  have hv : vsK a [] [] 0 = [] := by unfold vsK; rw [if_neg (by omega)]
  have h1 : fstW 31 a [] [t] [] 0 1 < 0 := by
    have : kidW 31 a [] [t] [] 0 0 < 0 := by
      have e : kidW 31 a [] [t] [] 0 0 = wR 31 t [] 1 := by simp [kidW, placesL, hv]
      rw [e, ← wR_fuel (g := 32) hd (by omega)]
      exact (wR_place (p := 0) (q := 1)).1.1 hw
    simpa [fstW] using this
  have e := wR_succ 31 a [] 0 [t] [] 0
  rw [show [t].length = 1 from rfl, if_neg (by omega)] at e
  show wR (31 + 1) (.node a [] 0 [t]) [] 0 = _
  rw [e]
  have hk' : kR (31 + 1) (.node a [] 0 [t]) [] = oneK a (kR 32 t []) := hk
  rw [hk']
  rfl
end Go.Proofs.YtidkbodmiegbkaaGreatDoor
