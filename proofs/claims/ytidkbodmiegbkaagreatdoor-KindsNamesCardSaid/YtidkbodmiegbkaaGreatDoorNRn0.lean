/- Taken over out of another chapter (its text Rn0): what is needed here. -/
import Derived.Test.YtidkbodmiegbkaaGreatDoorLK
import Derived.Below
import Derived.BigQuiet
import Derived.BigRegion
import Derived.Deep.AppendLies
import Derived.Deep.Draws
import Derived.Deep.Fields
import Derived.Deep.LoopGhost
import Derived.Deep.QuietTactic
import Derived.Deep.RegionHeld2
import Derived.Deep.RegionHeld3
import Derived.Deep.RegionLaw
import Derived.Deep.Slices
import Derived.Defers
import Derived.IntWalk
import Derived.Laws.BytesString
import Derived.Laws.EntriesVeiled
import Derived.Laws.IdiomStrings
import Derived.Laws.MakeOwn
import Derived.Laws.OwnMore
import Derived.Laws.Pointers
import Derived.Laws.Rows
import Derived.Lib.AppendStr
import Derived.Lib.Builder
import Derived.Lib.FrozenHead
import Derived.Lib.Hide
import Derived.Lib.ItoaNum
import Derived.Lib.ParseIntB
import Derived.Maps.AppendAt
import Derived.Outline
import Derived.OwnWalk
import Derived.ProofKit
import Derived.Recover
import Derived.RegionTactic
import Derived.StillTailTactics
import Derived.Tactics
import Derived.Tactics2
import Derived.WalkKit
import Derived.WalkMore
import Derived.WalkSmall
import Derived.WalkSpells
namespace Go.Proofs.YtidkbodmiegbkaaGreatDoor
set_option linter.unusedSimpArgs false
set_option linter.unusedVariables false
open Go.RowKit
theorem metL_congr {g g' : Nat → Option (Nat × Nat)} (hg : ∀ y r, g y = some r → y < r.2) : ∀ (ks : List Int) (p dp : Nat), (∀ y, p ≤ y → g y = g' y) → metL g ks p dp = metL g' ks p dp
  | [], p, dp, _ => rfl
  | k :: ks, p, dp, h => by
    simp only [metL]
    split
    · rw [← h p (Nat.le_refl _)]
      cases hx : g p with
      | none => rfl
      | some r =>
        have := hg p r hx
        exact metL_congr hg ks r.2 _ (fun y hy => h y (by omega))
    · rfl
/-- with fuel for all that stands behind, more fuel changes nothing -/
theorem met_fuel (l : List ND) : ∀ (f f' x : Nat), l.length ≤ x + f → l.length ≤ x + f' → metN l f x = metN l f' x
  | 0, 0, x, _, _ => rfl
  | 0, f' + 1, x, h, _ => by
    simp only [metN]
    rw [List.getElem?_eq_none (by omega)]
  | f + 1, 0, x, _, h => by
    simp only [metN]
    rw [List.getElem?_eq_none (by omega)]
  | f + 1, f' + 1, x, h, h' => by
    simp only [metN]
    cases l[x]? with
    | none => rfl
    | some d =>
      simp only
      split
      · rw [metL_congr (fun y r hr => (metN_in l f y r hr).1) d.kids (x + 1) 0 (fun y hy => met_fuel l f f' y (by omega) (by omega))]
      · rfl
/-- where a node is none, the whole is none -/
theorem right_no {l : List ND} (hok : ∀ d ∈ l, NdOk d) {i : Nat} (hi : i < l.length) (h : metN l l.length i = none) (h256 : l.length ≤ 256) : rightE l = 80 := by
  unfold rightE
  rw [if_neg (by omega)]
  cases hr : metN l l.length 0 with
  | none => rfl
  | some r =>
    simp only
    by_cases h2 : r.2 = l.length
    · exfalso
      obtain ⟨t, g1, g2, g3, _⟩ := metN_tree l hok _ _ _ hr
      subst g2
      simp only [Nat.zero_add] at h2
      have hsub : ∀ (t : Tr) (p i : Nat), i < t.size → Stands l t p → t.Good → ∃ f r, metN l f (p + i) = some r := by
        intro t
        suffices H : ∀ (N : Nat) (t : Tr), t.size ≤ N → ∀ (p i : Nat), i < t.size → Stands l t p → t.Good → ∃ f r, metN l f (p + i) = some r from fun p i => H t.size t (Nat.le_refl _) p i
        intro N
        induction N with
        | zero => intro t h; have := size_pos t; omega
        | succ N ih =>
          intro t hN p i hi hs hg
          rcases i with _ | i
          · exact ⟨_, _, (met_of t t.size p (Nat.le_refl _) hg hs).1⟩
          · obtain ⟨k, s, nm, ks⟩ := t
            have hs' := hs
            unfold Stands ndsT at hs
            simp only [Tr.size, Tr.flat, List.map_cons] at hs hi hN
            have htl : StandsL l ks (p + 1) := by
              have := congrArg (List.drop 1) hs
              unfold StandsL ndsL
              rw [List.drop_take, List.drop_drop, Nat.add_sub_cancel_left] at this
              exact this
            have kl : ∀ (ts : List Tr), sizeL ts ≤ N → GoodL ts → ∀ q j, j < sizeL ts → StandsL l ts q → ∃ f r, metN l f (q + j) = some r := by
              intro ts
              induction ts with
              | nil => intro _ _ q j hj; simp [sizeL] at hj
              | cons t ts iht =>
                intro hn hg q j hj hst
                simp only [sizeL] at hn hj
                unfold StandsL ndsL at hst
                simp only [sizeL, flatL, List.map_append] at hst
                rw [List.take_add] at hst
                have hln : ((l.drop q).take t.size).length = ((t.flat q).map EN.nd).length := by
                  have := congrArg List.length hst
                  simp only [List.length_append, List.length_take, List.length_drop, List.length_map, trFlat_len, trFlatL_len] at this ⊢
                  omega
                obtain ⟨e1, e2⟩ := List.append_inj hst hln
                rw [List.drop_drop] at e2
                by_cases hj2 : j < t.size
                · exact ih t (by omega) q j hj2 e1 hg.1
                · obtain ⟨f, r, hfr⟩ := iht (by omega) hg.2 (q + t.size) (j - t.size) (by omega) e2
                  exact ⟨f, r, by rw [← hfr]; congr 1; omega⟩
            obtain ⟨f, r, hfr⟩ := kl ks (by omega) hg.2 (p + 1) i (by omega) htl
            exact ⟨f, r, by rw [← hfr]; congr 1; omega⟩
      obtain ⟨f, r, hfr⟩ := hsub t 0 i (by omega) g3 g1
      rw [Nat.zero_add] at hfr
      have hin := metN_in l f i r hfr
      have mono : ∀ (f' : Nat), f ≤ f' → metN l f' i = some r := by
        intro f' hf
        have hm : ∀ (a b x : Nat) (q : Nat × Nat), a ≤ b → metN l a x = some q → metN l b x = some q := by
          intro a
          induction a with
          | zero => intro b x q _ h; simp only [metN] at h; cases h
          | succ a iha =>
            intro b x q hb h
            obtain ⟨b, rfl⟩ : ∃ c, b = c + 1 := ⟨b - 1, by omega⟩
            simp only [metN] at h ⊢
            cases hd : l[x]? with
            | none => rw [hd] at h; cases h
            | some d =>
              rw [hd] at h
              simp only at h ⊢
              split at h
              · rename_i hmay
                rw [if_pos hmay]
                obtain ⟨z, hz, rfl⟩ := Option.map_eq_some_iff.1 h
                have hml : ∀ (ks : List Int) (p dp : Nat) (z : Nat × Nat), metL (metN l a) ks p dp = some z → metL (metN l b) ks p dp = some z := by
                  intro ks
                  induction ks with
                  | nil => intro p dp z h; exact h
                  | cons k ks ihk =>
                    intro p dp z h
                    simp only [metL] at h ⊢
                    split at h
                    · rename_i e
                      rw [if_pos e]
                      cases hg : metN l a p with
                      | none => rw [hg] at h; cases h
                      | some w =>
                        rw [hg] at h
                        rw [iha b p w (by omega) hg]
                        exact ihk _ _ _ h
                    · cases h
                rw [hml _ _ _ _ hz]
                rfl
              · cases h
        exact hm f f' i r hf hfr
      have := mono (max f l.length) (by omega)
      rw [met_fuel l (max f l.length) l.length i (by omega) (by omega), h] at this
      cases this
    · rw [if_pos h2]
end Go.Proofs.YtidkbodmiegbkaaGreatDoor
