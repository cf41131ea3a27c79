/- Who leans on whom, in plain words: ways through a web of numbers. -/
import Derived.Test.YtikplcpghohklaaGreatApi
namespace Go.Proofs.YtikplcpghohklaaGreat
set_option linter.unusedSimpArgs false
set_option linter.unusedVariables false

/-- each one's own uses, by numbers -/
abbrev Web := List (List Nat)
def Edge (us : Web) (a b : Nat) : Prop := ∃ l, us[a]? = some l ∧ b ∈ l
inductive Reach (us : Web) : Nat → Nat → Prop
  | one {a b : Nat} (h : Edge us a b) : Reach us a b
  | more {a b c : Nat} (h : Reach us a b) (k : Edge us b c) : Reach us a c
theorem Reach.trans {us : Web} {a b c : Nat} (h : Reach us a b) (k : Reach us b c) : Reach us a c := by
  induction k with
  | one e => exact .more h e
  | more _ e ih => exact .more ih e
theorem Reach.head {us : Web} {a b c : Nat} (e : Edge us a b) (k : Reach us b c) : Reach us a c := (Reach.one e).trans k
/-- a way of so many steps -/
inductive Way (us : Web) : Nat → Nat → Nat → Prop
  | one {a b : Nat} (h : Edge us a b) : Way us 1 a b
  | more {n a b c : Nat} (h : Way us n a b) (k : Edge us b c) : Way us (n + 1) a c
theorem Reach.way {us : Web} {a b : Nat} (h : Reach us a b) : ∃ n, Way us n a b := by
  induction h with
  | one e => exact ⟨1, .one e⟩
  | more _ e ih => obtain ⟨n, h⟩ := ih; exact ⟨n + 1, .more h e⟩
theorem Way.reach {us : Web} {n a b : Nat} (h : Way us n a b) : Reach us a b := by
  induction h with
  | one e => exact .one e
  | more _ e ih => exact .more ih e
theorem Way.add {us : Web} {n m a b c : Nat} (h : Way us n a b) (k : Way us m b c) : Way us (n + m) a c := by
  induction k with
  | one e => exact .more h e
  | more _ e ih => rw [← Nat.add_assoc]; exact .more (ih h) e
theorem Way.pos {us : Web} {n a b : Nat} (h : Way us n a b) : 0 < n := by cases h <;> omega

/-- different numbers below n are at most n -/
theorem nodup_le : ∀ (n : Nat) (l : List Nat), l.Nodup → (∀ x ∈ l, x < n) → l.length ≤ n
  | 0, l, _, h => by
    cases l with
    | nil => simp
    | cons a t => exact absurd (h a (by simp)) (by omega)
  | n + 1, l, hn, h => by
    have h1 := nodup_le n (l.erase n) (hn.erase n) (fun x hx => by
      have hm := List.mem_of_mem_erase hx
      have hne : x ≠ n := fun e => by subst e; exact absurd hx (List.Nodup.not_mem_erase hn)
      have := h x hm
      omega)
    by_cases hm : n ∈ l
    · rw [List.length_erase_of_mem hm] at h1; omega
    · rw [List.erase_of_not_mem hm] at h1; omega
theorem dup_of {l : List Nat} (h : ¬ l.Nodup) : ∃ A x B C, l = A ++ x :: (B ++ x :: C) := by
  induction l with
  | nil => exact absurd List.nodup_nil h
  | cons a t ih =>
    by_cases hm : a ∈ t
    · obtain ⟨B, C, rfl⟩ := List.append_of_mem hm
      exact ⟨[], a, B, C, rfl⟩
    · have : ¬ t.Nodup := fun ht => h (List.nodup_cons.2 ⟨hm, ht⟩)
      obtain ⟨A, x, B, C, rfl⟩ := ih this
      exact ⟨a :: A, x, B, C, rfl⟩
/-- the numbers from which a way goes on, in their order -/
inductive Trail (us : Web) : Nat → List Nat → Nat → Prop
  | one {a b : Nat} (h : Edge us a b) : Trail us a [a] b
  | cons {a b c : Nat} {l : List Nat} (h : Edge us a b) (k : Trail us b l c) : Trail us a (a :: l) c
theorem Trail.way {us : Web} {a b : Nat} {l : List Nat} (h : Trail us a l b) : Way us l.length a b := by
  induction h with
  | one e => exact .one e
  | cons e _ ih => have := (Way.one e).add ih; rw [Nat.add_comm] at this; exact this
theorem Trail.snoc {us : Web} {a b c : Nat} {l : List Nat} (h : Trail us a l b) (e : Edge us b c) : Trail us a (l ++ [b]) c := by
  induction h with
  | one e' => exact .cons e' (.one e)
  | cons e' _ ih => exact .cons e' (ih e)
theorem Way.trail {us : Web} {n a b : Nat} (h : Way us n a b) : ∃ l, Trail us a l b ∧ l.length = n := by
  induction h with
  | one e => exact ⟨_, .one e, rfl⟩
  | more _ e ih => obtain ⟨l, h, hl⟩ := ih; exact ⟨_, h.snoc e, by simp [hl]⟩
theorem Trail.lt {us : Web} {a b : Nat} {l : List Nat} (h : Trail us a l b) : ∀ x ∈ l, x < us.length := by
  induction h with
  | one e => intro x hx; simp at hx; subst hx; obtain ⟨_, h, _⟩ := e; exact (List.getElem?_eq_some_iff.1 h).1
  | cons e _ ih =>
    intro x hx
    rcases List.mem_cons.1 hx with rfl | hx
    · obtain ⟨_, h, _⟩ := e; exact (List.getElem?_eq_some_iff.1 h).1
    · exact ih x hx
/-- from a number on the way, the way goes on -/
theorem Trail.cut {us : Web} {b : Nat} : ∀ (A : List Nat) {a x : Nat} {C : List Nat}, Trail us a (A ++ x :: C) b → Trail us x (x :: C) b ∧ (A = [] → a = x)
  | [], a, x, C, h => by
    cases h with
    | one e => exact ⟨.one e, fun _ => rfl⟩
    | cons e k => exact ⟨.cons e k, fun _ => rfl⟩
  | y :: A, a, x, C, h => by
    refine ⟨?_, fun e => by cases e⟩
    cases hA : A ++ x :: C with
    | nil => simp at hA
    | cons z t =>
      rw [List.cons_append, hA] at h
      cases h with
      | cons e k => rw [← hA] at k; exact (Trail.cut A k).1
theorem Trail.glue {us : Web} {b : Nat} : ∀ (A : List Nat) {a x : Nat} {C D : List Nat}, Trail us a (A ++ x :: C) b → Trail us x (x :: D) b → Trail us a (A ++ x :: D) b
  | [], a, x, C, D, h, k => by have := (Trail.cut [] h).2 rfl; subst this; exact k
  | y :: A, a, x, C, D, h, k => by
    cases hA : A ++ x :: C with
    | nil => simp at hA
    | cons z t =>
      rw [List.cons_append, hA] at h
      cases h with
      | cons e m => rw [← hA] at m; exact .cons e (Trail.glue A m k)
/-- a way has a short way -/
theorem Way.short {us : Web} : ∀ (n a b : Nat), Way us n a b → ∃ m, m ≤ us.length ∧ m ≤ n ∧ Way us m a b := by
  intro n
  induction n using Nat.strongRecOn with
  | _ n ih =>
    intro a b h
    by_cases hn : n ≤ us.length
    · exact ⟨n, hn, Nat.le_refl _, h⟩
    · obtain ⟨l, ht, hl⟩ := h.trail
      have hd : ¬ l.Nodup := fun hd => by have := nodup_le us.length l hd ht.lt; omega
      obtain ⟨A, x, B, C, rfl⟩ := dup_of hd
      have h1 := (Trail.cut A ht).1
      have h2 : Trail us x (x :: C) b := (Trail.cut (x :: B) (by simpa using h1)).1
      have h3 := (Trail.glue A ht h2).way
      obtain ⟨m, m1, m2, m3⟩ := ih _ (by simp at hl ⊢; omega) a b h3
      exact ⟨m, m1, by simp at hl m2 ⊢; omega, m3⟩
theorem Reach.short {us : Web} {a b : Nat} (h : Reach us a b) : ∃ m, m ≤ us.length ∧ Way us m a b := by
  obtain ⟨n, hn⟩ := h.way
  obtain ⟨m, h1, _, h2⟩ := Way.short n a b hn
  exact ⟨m, h1, h2⟩
/-- where none leans on itself, and some are left over, one is ready -/
theorem ready_one {us : Web} (hacy : ∀ a, ¬ Reach us a a) (row : List Nat) (hleft : ∃ a, a < us.length ∧ a ∉ row) (hin : ∀ a b, Edge us a b → b < us.length) : ∃ a, a < us.length ∧ a ∉ row ∧ ∀ b, Edge us a b → b ∈ row := by
  refine Classical.byContradiction fun hno => ?_
  have step : ∀ a, a < us.length ∧ a ∉ row → ∃ b, (b < us.length ∧ b ∉ row) ∧ Edge us a b := by
    intro a ⟨h1, h2⟩
    refine Classical.byContradiction fun hb => hno ⟨a, h1, h2, fun b e => Classical.byContradiction fun hr => hb ⟨b, ⟨hin a b e, hr⟩, e⟩⟩
  obtain ⟨a, ha⟩ := hleft
  have long : ∀ n, ∀ a, (a < us.length ∧ a ∉ row) → ∃ b, (b < us.length ∧ b ∉ row) ∧ Way us (n + 1) a b := by
    intro n
    induction n with
    | zero => intro a ha; obtain ⟨b, h1, h2⟩ := step a ha; exact ⟨b, h1, .one h2⟩
    | succ n ih => intro a ha; obtain ⟨b, h1, h2⟩ := ih a ha; obtain ⟨c, h3, h4⟩ := step b h1; exact ⟨c, h3, .more h2 h4⟩
  obtain ⟨b, _, hb⟩ := long us.length a ha
  obtain ⟨l, ht, hl⟩ := hb.trail
  have hd : ¬ l.Nodup := fun hd => by have := nodup_le us.length l hd ht.lt; omega
  obtain ⟨A, x, B, C, rfl⟩ := dup_of hd
  have h1 := (Trail.cut A ht).1
  -- from x a way to x
  have h2 : ∀ (B : List Nat) (y : Nat), Trail us y (y :: (B ++ x :: C)) b → Reach us y x := by
    intro B
    induction B with
    | nil =>
      intro y h
      cases h with
      | cons e k => have := (Trail.cut [] k).2 rfl; subst this; exact .one e
    | cons z B ih =>
      intro y h
      cases h with
      | cons e k => have := (Trail.cut [] k).2 rfl; subst this; exact .head e (ih _ k)
  exact hacy x (h2 B x h1)

/-! a matrix, round by round -/
structure Mat (us : Web) (r : Nat) (M : Nat → Nat → Bool) : Prop where
  sound : ∀ a b, M a b = true → Reach us a b
  full : ∀ n a b, n ≤ r + 1 → Way us n a b → M a b = true
theorem Mat.start {us : Web} {M : Nat → Nat → Bool} (h : ∀ a b, M a b = true ↔ Edge us a b) : Mat us 0 M := by
  refine ⟨fun a b hm => .one ((h a b).1 hm), fun n a b hn hw => ?_⟩
  cases hw with
  | one e => exact (h a b).2 e
  | more hw e => have := hw.pos; omega
theorem Mat.round {us : Web} {r : Nat} {M M' : Nat → Nat → Bool} (h : Mat us r M) (hs : ∀ a b, M' a b = true → Reach us a b) (hm : ∀ a b, M a b = true → M' a b = true)
    (hd : ∀ a b c, M a b = true → M b c = true → M' a c = true) : Mat us (r + 1) M' := by
  refine ⟨hs, fun n a b hn hw => ?_⟩
  cases hw with
  | one e => exact hm _ _ (h.full 1 a b (by omega) (.one e))
  | more hw e => exact hd _ _ _ (h.full _ _ _ (by omega) hw) (h.full 1 _ _ (by omega) (.one e))
theorem Mat.whole {us : Web} {M : Nat → Nat → Bool} (h : Mat us us.length M) (a b : Nat) : M a b = true ↔ Reach us a b := by
  refine ⟨h.sound a b, fun hr => ?_⟩
  obtain ⟨m, h1, h2⟩ := hr.short
  exact h.full m a b (by omega) h2
/-! what is reached, gathered -/
structure Gath (us : Web) (n i : Nat) (out : List Nat) : Prop where
  first : out[0]? = some n
  nodup : out.Nodup
  sound : ∀ m ∈ out, m = n ∨ Reach us n m
  shut : ∀ j x, j < i → out[j]? = some x → ∀ m, Edge us x m → m ∈ out
  upto : i ≤ out.length
theorem Gath.start (us : Web) (n : Nat) : Gath us n 0 [n] := ⟨rfl, by simp, fun m hm => by simp at hm; exact .inl hm, fun j x hj => by omega, by simp⟩
theorem Gath.next {us : Web} {n i x : Nat} {out : List Nat} (h : Gath us n i out) (hx : out[i]? = some x) (hu : ∀ m, Edge us x m → m ∈ out) : Gath us n (i + 1) out := by
  refine ⟨h.first, h.nodup, h.sound, fun j y hj hy m e => ?_, (List.getElem?_eq_some_iff.1 hx).1⟩
  by_cases hji : j = i
  · subst hji; rw [hx] at hy; injection hy with hy; subst hy; exact hu m e
  · exact h.shut j y (by omega) hy m e
theorem Gath.more {us : Web} {n i x m : Nat} {out : List Nat} (h : Gath us n i out) (hx : x ∈ out) (e : Edge us x m) (hm : m ∉ out) : Gath us n i (out ++ [m]) := by
  have h0 : 0 < out.length := (List.getElem?_eq_some_iff.1 h.first).1
  refine ⟨by rw [List.getElem?_append_left h0]; exact h.first, ?_, fun y hy => ?_, fun j y hj hy k ek => ?_, by have := h.upto; simp; omega⟩
  · rw [List.nodup_append]
    exact ⟨h.nodup, by simp, fun a ha b hb => by simp at hb; subst hb; exact fun e => hm (e ▸ ha)⟩
  · rcases List.mem_append.1 hy with hy | hy
    · exact h.sound y hy
    · simp at hy; subst hy
      rcases h.sound x hx with rfl | hr
      · exact .inr (.one e)
      · exact .inr (.more hr e)
  · have hjl : j < out.length := by have := h.upto; omega
    rw [List.getElem?_append_left hjl] at hy
    exact List.mem_append_left _ (h.shut j y hj hy k ek)
theorem Gath.done {us : Web} {n : Nat} {out : List Nat} (h : Gath us n out.length out) (m : Nat) : m ∈ out ↔ m = n ∨ Reach us n m := by
  refine ⟨h.sound m, fun hm => ?_⟩
  have hn : n ∈ out := List.mem_of_getElem? h.first
  rcases hm with rfl | hr
  · exact hn
  · induction hr with
    | one e => obtain ⟨j, hj⟩ := List.mem_iff_getElem?.1 hn; exact h.shut j _ (List.getElem?_eq_some_iff.1 hj).1 hj _ e
    | more _ e ih => obtain ⟨j, hj⟩ := List.mem_iff_getElem?.1 ih; exact h.shut j _ (List.getElem?_eq_some_iff.1 hj).1 hj _ e
theorem Gath.lt {us : Web} {n i : Nat} {out : List Nat} (h : Gath us n i out) (hn : n < us.length) (hin : ∀ a b, Edge us a b → b < us.length) : out.length ≤ us.length :=
  nodup_le _ _ h.nodup fun x hx => by
    rcases h.sound x hx with rfl | hr
    · exact hn
    · cases hr with
      | one e => exact hin _ _ e
      | more _ e => exact hin _ _ e

/-! the row -/
def readyN (us : Web) (row : List Nat) (n : Nat) : Bool := match us[n]? with
  | some l => l.all fun k => decide (k ∈ row)
  | none => false
def nextN (us : Web) (row : List Nat) : Option Nat := (List.range us.length).find? fun n => readyN us row n && decide (n ∉ row)
def rowR (us : Web) : Nat → List Nat → List Nat
  | 0, row => row
  | f + 1, row => match nextN us row with
    | some n => rowR us f (row ++ [n])
    | none => row
def rowN (us : Web) : List Nat := rowR us us.length []
theorem sub_le : ∀ (l m : List Nat), l.Nodup → (∀ x ∈ l, x ∈ m) → l.length ≤ m.length
  | [], _, _, _ => by simp
  | a :: t, m, hn, h => by
    have ha := h a (by simp)
    have h1 := sub_le t (m.erase a) (List.nodup_cons.1 hn).2 (fun x hx => by
      have hne : x ≠ a := fun e => by subst e; exact (List.nodup_cons.1 hn).1 hx
      exact (List.mem_erase_of_ne hne).2 (h x (by simp [hx])))
    rw [List.length_erase_of_mem ha] at h1
    have : 0 < m.length := List.length_pos_of_mem ha
    simp; omega
theorem readyN_iff {us : Web} {row : List Nat} {n : Nat} : readyN us row n = true ↔ n < us.length ∧ ∀ b, Edge us n b → b ∈ row := by
  unfold readyN Edge
  constructor
  · intro h
    split at h
    · rename_i l hl
      refine ⟨(List.getElem?_eq_some_iff.1 hl).1, fun b ⟨l', h1, h2⟩ => ?_⟩
      obtain rfl : l = l' := Option.some.inj (hl.symm.trans h1)
      simpa using (List.all_eq_true.1 h) b h2
    · cases h
  · rintro ⟨h1, h2⟩
    rw [List.getElem?_eq_getElem h1]
    simp only [List.all_eq_true, decide_eq_true_eq]
    exact fun x hx => h2 x ⟨_, List.getElem?_eq_getElem h1, hx⟩
/-- the first that is ready and left over -/
theorem nextN_is {us : Web} {row : List Nat} {n : Nat} (h1 : readyN us row n = true) (h2 : n ∉ row) (h3 : ∀ k, k < n → readyN us row k = false ∨ k ∈ row) : nextN us row = some n := by
  unfold nextN
  rw [List.find?_range_eq_some]
  refine ⟨by simp [h1, h2], by simp [(readyN_iff.1 h1).1], fun k hk => ?_⟩
  rcases h3 k hk with h | h <;> simp [h]
theorem nextN_some {us : Web} (hacy : ∀ a, ¬ Reach us a a) (hin : ∀ a b, Edge us a b → b < us.length) {row : List Nat} (hl : row.length < us.length) : ∃ n, nextN us row = some n := by
  have hleft : ∃ a, a < us.length ∧ a ∉ row := by
    refine Classical.byContradiction fun hno => ?_
    have := sub_le (List.range us.length) row List.nodup_range (fun x hx => Classical.byContradiction fun hr => hno ⟨x, by simpa using hx, hr⟩)
    simp at this; omega
  obtain ⟨a, h1, h2, h3⟩ := ready_one hacy row hleft hin
  cases h : nextN us row with
  | some n => exact ⟨n, rfl⟩
  | none =>
    unfold nextN at h
    rw [List.find?_eq_none] at h
    have := h a (by simp [h1])
    simp [readyN_iff.2 ⟨h1, h3⟩, h2] at this
theorem nextN_out {us : Web} {row : List Nat} {n : Nat} (h : nextN us row = some n) : n < us.length ∧ n ∉ row ∧ readyN us row n = true ∧ ∀ k, k < n → readyN us row k = false ∨ k ∈ row := by
  unfold nextN at h
  rw [List.find?_range_eq_some] at h
  obtain ⟨h1, h2, h3⟩ := h
  simp at h1 h2
  refine ⟨by simpa using h2, h1.2, h1.1, fun k hk => ?_⟩
  have := h3 k hk
  simpa using this
theorem rowR_step {us : Web} {f : Nat} {row : List Nat} {n : Nat} (h : nextN us row = some n) : rowR us (f + 1) row = rowR us f (row ++ [n]) := by
  simp [rowR, h]
end Go.Proofs.YtikplcpghohklaaGreat
