/- The row of languages and its first fault, as plain functions (P24.1). -/
import Derived.Test.YtikplcpghohklaaGreatLeans0
namespace Go.Proofs.YtikplcpghohklaaGreat
set_option linter.unusedSimpArgs false
set_option linter.unusedVariables false
open Go.RowKit

/-- the first answer along a list -/
def firstF {α β : Type} (f : Nat → α → Option β) : Nat → List α → Option β
  | _, [] => none
  | k, x :: t => match f k x with
    | some r => some r
    | none => firstF f (k + 1) t
theorem firstF_step {α β : Type} {f : Nat → α → Option β} {l : List α} {k : Nat} {x : α} (h : l[k]? = some x) :
    firstF f k (l.drop k) = match f k x with | some r => some r | none => firstF f (k + 1) (l.drop (k + 1)) := by
  have hk := (List.getElem?_eq_some_iff.1 h).1
  rw [List.drop_eq_getElem_cons hk, (List.getElem?_eq_some_iff.1 h).2]
  rfl
theorem firstF_end {α β : Type} {f : Nat → α → Option β} {l : List α} {k : Nat} (h : l.length ≤ k) : firstF f k (l.drop k) = none := by rw [List.drop_of_length_le h]; rfl
theorem firstF_none {α β : Type} {f : Nat → α → Option β} {l : List α} (h : firstF f 0 l = none) : ∀ (i : Nat) (x : α), l[i]? = some x → f i x = none := by
  have key : ∀ (l : List α) (k : Nat), firstF f k l = none → ∀ (i : Nat) (x : α), l[i]? = some x → f (k + i) x = none := by
    intro l
    induction l with
    | nil => intro k _ i x hx; simp at hx
    | cons y t ih =>
      intro k hk i x hx
      simp only [firstF] at hk
      split at hk
      · cases hk
      · rename_i h0
        rcases i with _ | i
        · simp at hx; subst hx; exact h0
        · have := ih (k + 1) hk i x (by simpa using hx)
          rwa [Nat.add_assoc, Nat.add_comm 1 i] at this
  intro i x hx
  have := key l 0 h i x hx
  rwa [Nat.zero_add] at this
def aloneF (n : Nat) (l : Language) : Option Flt := if (checkE l).err = 0 then none else some ⟨10 * n + (checkE l).list, (checkE l).at_, (checkE l).part, (checkE l).err⟩
def namedF (ls : List Language) (n : Nat) (l : Language) : Option Flt := if findN ls l.name < n then some ⟨10 * n, 0, 0, 40⟩ else none
def usedG (ls : List Language) (n i : Nat) (s : ByteArray) : Option Flt := if findN ls s < 0 then some ⟨10 * n + 1, i, 0, 240⟩ else none
def usedF (ls : List Language) (n : Nat) (l : Language) : Option Flt := firstF (usedG ls n) 0 l.uses
open Classical in
noncomputable def ringG (ls : List Language) (n i : Nat) (s : ByteArray) : Option Flt := if Reach (webN ls) (findN ls s).toNat n then some ⟨10 * n + 1, i, 0, 43⟩ else none
noncomputable def ringF (ls : List Language) (n : Nat) (l : Language) : Option Flt := firstF (ringG ls n) 0 l.uses
noncomputable def faultN (ls : List Language) : Option Flt :=
  if 128 < ls.length then some ⟨1280, 0, 0, 4⟩ else
  match firstF aloneF 0 ls with
  | some f => some f
  | none => match firstF (namedF ls) 0 ls with
    | some f => some f
    | none => match firstF (usedF ls) 0 ls with
      | some f => some f
      | none => firstF (ringF ls) 0 ls
theorem found_of {ls : List Language} (h : firstF (usedF ls) 0 ls = none) : AllFound ls := by
  intro l hl s hs
  obtain ⟨i, hi⟩ := List.mem_iff_getElem?.1 hl
  obtain ⟨k, hk⟩ := List.mem_iff_getElem?.1 hs
  have h1 := firstF_none h i l hi
  have h2 := firstF_none h1 k s hk
  unfold usedG at h2
  split at h2
  · cases h2
  · omega
theorem acyc_of {ls : List Language} (h : firstF (ringF ls) 0 ls = none) : ∀ a, ¬ Reach (webN ls) a a := by
  intro a hr
  -- the first step of the way
  have hd : ∀ {a b : Nat}, Reach (webN ls) a b → ∃ k, Edge (webN ls) a k ∧ (k = b ∨ Reach (webN ls) k b) := by
    intro a b h
    induction h with
    | one e => exact ⟨_, e, .inl rfl⟩
    | more _ e ih =>
      obtain ⟨k, h1, h2⟩ := ih
      refine ⟨k, h1, .inr ?_⟩
      rcases h2 with rfl | h2
      · exact .one e
      · exact .more h2 e
  obtain ⟨k, ⟨u, hu, hk⟩, hka⟩ := hd hr
  have hrk : Reach (webN ls) k a := by rcases hka with rfl | h2; exact hr; exact h2
  unfold webN at hu
  rw [List.getElem?_map] at hu
  cases hl : ls[a]? with
  | none => rw [hl] at hu; cases hu
  | some l =>
    rw [hl] at hu
    injection hu with hu
    subst hu
    obtain ⟨s, hs, hsk⟩ := List.mem_map.1 hk
    obtain ⟨i, hi⟩ := List.mem_iff_getElem?.1 hs
    have h1 := firstF_none h a l hl
    have h2 := firstF_none h1 i s hi
    unfold ringG at h2
    rw [if_pos (by rw [hsk]; exact hrk)] at h2
    cases h2
/-- the row, so many of them being in it -/
theorem row_more {us : Web} {row : List Nat} {n f : Nat} (h : nextN us row = some n) : rowR us (f + 1) row = rowR us f (row ++ [n]) := rowR_step h
/-- a fault of a definition alone -/
theorem aloneF_some {n : Nat} {l : Language} (h : ¬ (checkE l).err = 0) : aloneF n l = some ⟨10 * n + (checkE l).list, (checkE l).at_, (checkE l).part, (checkE l).err⟩ := by unfold aloneF; rw [if_neg h]
theorem aloneF_none {n : Nat} {l : Language} (h : (checkE l).err = 0) : aloneF n l = none := by unfold aloneF; rw [if_pos h]
theorem checkE_list (l : Language) : (checkE l).list ≤ 6 := by
  unfold checkE fltOf
  repeat' split
  all_goals simp
/-- how 'order' answers in the reference -/
def OrdPost (ls : List Language) (w : World) (e : Ending) (w' : World) : Prop :=
  (match faultN ls with
    | some f => e = .returned (.tuple #[.slice none 0 0, fltR f])
    | none => ∃ a c, e = .returned (.tuple #[.slice a ls.length c, fltV 0 0 0 0]) ∧ SlR w' w'.heap.size 1 IsInt (.slice a ls.length c) ((rowN (webN ls)).map fun (n : Nat) => (n : Int))) ∧ Below w.heap.size w w'
end Go.Proofs.YtikplcpghohklaaGreat
