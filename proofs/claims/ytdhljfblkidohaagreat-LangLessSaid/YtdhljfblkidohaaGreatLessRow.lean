/- LangLess: an element of a row that is set anew; the other ones stay. -/
import Derived.Test.YtdhljfblkidohaaGreatLessing
import Derived.Test.YtdhljfblkidohaaGreatTn3
namespace Go.Proofs.YtdhljfblkidohaaGreat
set_option linter.unusedSimpArgs false
set_option linter.unusedVariables false
open Go.RowKit

theorem Own1.grown_block {α : Type} {w w' : World} {base size : Nat} {b : Option Nat} {e : TypeId} {R : List Value → α → Prop} {v : Value} {l : List α} (h : Own1 w base e size R v l) (hg : w.grownBy w' b) (hb : ∀ g, v.ownBlock = some g → b ≠ some g) : Own1 w' base e size R v l := by
  have hbl := h.block
  obtain ⟨xs, ⟨h0, h1⟩, h2⟩ := h
  refine ⟨xs, ⟨h0, ?_⟩, h2⟩
  rcases h1 with h1 | ⟨k, cap, cur, r1, r2, r3, r4⟩
  · exact .inl h1
  · subst r1
    refine .inr ⟨k, cap, cur, rfl, r2, ?_, r4⟩
    rw [hg.block k (hbl k rfl).2 (fun he => hb k rfl he.symm)]
    exact r3
/-- blocks of different types are different -/
theorem Own1.block_ne {α β : Type} {w : World} {base base' size size' g g' : Nat} {e e' : TypeId} {R : List Value → α → Prop} {R' : List Value → β → Prop} {v v' : Value} {l : List α} {l' : List β} (h : Own1 w base e size R v l) (h' : Own1 w base' e' size' R' v' l') (hne : e ≠ e') (hg : v.ownBlock = some g) (hg' : v'.ownBlock = some g') : g ≠ g' := by
  obtain ⟨_, ⟨_, h1⟩, _⟩ := h
  obtain ⟨_, ⟨_, h2⟩, _⟩ := h'
  rcases h1 with ⟨rfl, _⟩ | ⟨k, cap, cur, rfl, _, r3, _⟩
  · cases hg
  rcases h2 with ⟨rfl, _⟩ | ⟨k', cap', cur', rfl, _, r3', _⟩
  · cases hg'
  injection hg with hg
  injection hg' with hg'
  intro he
  subst hg hg' he
  rw [r3] at r3'
  injection r3' with r3'
  injection r3' with _ e2 _
  exact hne e2
/-- a row's block, whole -/
theorem Own1.blk {α : Type} {w : World} {base size g n c : Nat} {e : TypeId} {R : List Value → α → Prop} {l : List α} (h : Own1 w base e size R (.slice (some ⟨g, 0, none⟩) n c) l) : ∃ cs, Blk w g e cs := by
  obtain ⟨_, ⟨_, h1⟩, _⟩ := h
  rcases h1 with ⟨h1, _⟩ | ⟨k, cap, cur, r1, _, r3, _⟩
  · cases h1
  · injection r1 with e1 _ _
    injection e1 with e1
    injection e1 with e1
    subst e1
    exact ⟨cur, r3⟩
/-- an element's cells -/
theorem Own1.elem {α : Type} {w : World} {base size g n c k : Nat} {e : TypeId} {R : List Value → α → Prop} {l : List α} {y : α} (h : Own1 w base e size R (.slice (some ⟨g, 0, none⟩) n c) l) (hs : 0 < size) (hy : l[k]? = some y) :
    ∃ x, x.length = size ∧ R x y ∧ ∀ (j : Nat) (u : Value), x[j]? = some u → w.cell? ⟨g, k * size + j, none⟩ = some u := by
  obtain ⟨b, off, x, ha, _, hl, hr, hx⟩ := (h.read hs).at_ hy
  injection ha with ha
  injection ha with e1 e2
  subst e1 e2
  exact ⟨x, hl, hr, fun j u hu => by have := hx j u hu; rwa [Nat.zero_add] at this⟩
/-- one element set anew -/
theorem row_set {T : Type} {O I : List Value → T → Prop} {W W9 : World} {base e size eg n ec k : Nat} {ls : List (T × List Nat)} {p : T × List Nat} {y' : T} {x2 : List Value} (hs : 0 < size)
    (hrow : Own1 W base e size (TagR O) (.slice (some ⟨eg, 0, none⟩) n ec) ls) (hts : Tagged ls) (hk : ls[k]? = some p)
    (h1 : ∀ i j, i ≠ k → j < size → W9.cell? ⟨eg, i * size + j, none⟩ = W.cell? ⟨eg, i * size + j, none⟩)
    (h2 : ∀ (j : Nat) (u : Value), x2[j]? = some u → W9.cell? ⟨eg, k * size + j, none⟩ = some u) (hx2 : x2.length = size) (hsz : W.heap.size ≤ W9.heap.size)
    (hI : ∀ (q : T × List Nat) (x : List Value), (∀ g ∈ q.2, g ∉ p.2) → O x q.1 → x.filterMap Value.ownBlock = q.2 → I x q.1) (hY : I x2 y') :
    SlR W9 W9.heap.size size I (.slice (some ⟨eg, 0, none⟩) n ec) ((ls.map fun q => q.1).set k y') := by
  obtain ⟨hc1, hc2, hc3⟩ := hrow.caps
  have hb := (hrow.block eg rfl).2
  have hlen : ((ls.map fun q => q.1).set k y').length = n := by rw [List.length_set, List.length_map, hc1]
  refine ⟨_, ec, by rw [hlen], by omega, hc3, fun _ => ⟨eg, 0, rfl, by omega, fun i z hz => ?_⟩⟩
  have hi : i < ls.length := by have := (List.getElem?_eq_some_iff.1 hz).1; omega
  by_cases hik : i = k
  · subst hik
    rw [List.getElem?_set_self (by rw [List.length_map]; exact hi)] at hz
    injection hz with hz
    subst hz
    exact ⟨x2, hx2, hY, fun j u hu => by rw [Nat.zero_add]; exact h2 j u hu⟩
  · rw [List.getElem?_set_ne (by omega), List.getElem?_map] at hz
    cases hq : ls[i]? with
    | none => rw [hq] at hz; cases hz
    | some q =>
      rw [hq] at hz
      injection hz with hz
      subst hz
      obtain ⟨x, hl, ⟨r1, r2⟩, hx⟩ := hrow.elem hs hq
      have hkl : k < ls.length := (List.getElem?_eq_some_iff.1 hk).1
      have hd : ∀ g ∈ q.2, g ∉ p.2 := by
        have hp := List.pairwise_iff_getElem.1 hts
        rcases Nat.lt_or_gt_of_ne hik with hlt | hlt
        · have := hp i k hi hkl hlt
          rw [(List.getElem?_eq_some_iff.1 hq).2, (List.getElem?_eq_some_iff.1 hk).2] at this
          exact this
        · have := hp k i hkl hi hlt
          rw [(List.getElem?_eq_some_iff.1 hq).2, (List.getElem?_eq_some_iff.1 hk).2] at this
          exact fun g hg hg2 => this g hg2 hg
      refine ⟨x, hl, hI q x hd r1 r2, fun j u hu => ?_⟩
      have hj : j < size := by rw [← hl]; exact (List.getElem?_eq_some_iff.1 hu).1
      rw [Nat.zero_add, h1 i j hik hj]
      exact hx j u hu
end Go.Proofs.YtdhljfblkidohaaGreat
