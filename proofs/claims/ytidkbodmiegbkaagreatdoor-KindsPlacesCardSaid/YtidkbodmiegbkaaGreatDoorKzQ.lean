/- Chapter 09, plain words, outright: whose part a place is. -/
import Derived.Test.YtidkbodmiegbkaaGreatDoorKzJ
namespace Go.Proofs.YtidkbodmiegbkaaGreatDoor
set_option linter.unusedSimpArgs false
set_option linter.unusedVariables false
open Go.RowKit

theorem par_und {l : List ND} : ∀ {t : Tr} {vs : List (List Nat)} {p i : Nat} {u : Tr}, t.Good → Und l vs p t → subT t i = some u → 0 < i → ∃ (vs' : List (List Nat)) (k : Nat) (s : List Nat) (n : Int) (ks : List Tr) (j : Nat), Und l vs' (p + parT t i) (.node k s n ks) ∧ (placesL ks (p + parT t i + 1))[j]? = some (p + i) ∧ parT t i < i ∧ 8 ≤ k
  | .node k s n ks, vs, p, 0, u, hg, h, hu, hi => by omega
  | .node k s n ks, vs, p, i + 1, u, hg, h, hu, hi => by
    simp only [subT] at hu
    obtain ⟨j, t, ht, h1, h2, h3⟩ := subL_at hu
    have hj := (List.getElem?_eq_some_iff.1 ht).1
    have hq := places_get (p := p + 1) hj
    simp only [parT]
    rw [parL_at ht h1 h2]
    by_cases h0 : i - sizeL (ks.take j) = 0
    · rw [if_pos h0]
      refine ⟨vs, k, s, n, ks, j, h, ?_, by omega, ?_⟩
      · rw [Nat.add_zero, hq]
        congr 1
        omega
      · rcases shape_cases hg.1.1 with ⟨rfl, _⟩ | ⟨_, _, h⟩ | ⟨_, _, _, h⟩ | ⟨_, _, _, _, h⟩
        · simp at hj
        all_goals omega
    · rw [if_neg h0]
      obtain ⟨vs', k', s', n', ks', j', g1, g2, g3, g4⟩ := par_und (good_at hg.2 ht) (h.kid ht hq) h3 (by omega)
      refine ⟨vs', k', s', n', ks', j', ?_, ?_, by omega, g4⟩
      · rw [show p + (1 + sizeL (ks.take j) + parT t (i - sizeL (ks.take j))) = p + 1 + sizeL (ks.take j) + parT t (i - sizeL (ks.take j)) by omega]
        exact g1
      · rw [show p + (1 + sizeL (ks.take j) + parT t (i - sizeL (ks.take j))) + 1 = p + 1 + sizeL (ks.take j) + parT t (i - sizeL (ks.take j)) + 1 by omega, g2]
        congr 1
        omega
/-- a place's first bearer -/
structure ParIs (l : List ND) (at_ P : Nat) : Prop where
  lt : P < at_
  has : ∃ (d : ND) (j : Nat), l[P]? = some d ∧ d.kids[j]? = some (at_ : Int)
  fst : ∀ (i' : Nat) (d' : ND), i' < P → l[i']? = some d' → ∀ x ∈ d'.kids, x ≠ (at_ : Int)
  kind : ∀ d : ND, l[P]? = some d → d.kind ≠ 7
theorem par_is {t : Tr} {i : Nat} {u : Tr} (hg : t.Good) (hu : subT t i = some u) (hi : 0 < i) : ParIs (ndsT t 0) i (parT t i) := by
  obtain ⟨vs', k, s, n, ks, j, h1, h2, h3, h4⟩ := par_und hg (Und.root (stands_nds t) (nds_len t 0)) hu hi
  rw [Nat.zero_add] at h1 h2
  rw [Nat.zero_add] at h2
  have hs := (stands_node h1.stands).1
  have hup := upF_kid h1 h2
  refine ⟨h3, ⟨_, j, hs, by simp only; rw [List.getElem?_map, h2]; rfl⟩, fun i' d' hi' hd' x hx => ?_, fun d hd => ?_⟩
  · have hin := places_in ks _ i (List.mem_iff_getElem?.2 ⟨j, h2⟩)
    have := h1.inv i' d' hi' hd' x hx
    simp only [Tr.size] at this
    omega
  · rw [hs] at hd
    injection hd with hd
    subst hd
    simp only
    omega
end Go.Proofs.YtidkbodmiegbkaaGreatDoor
