/- Chapter 09, plain words: texts in order; the least one first, one after the other. -/
import Derived.Test.YtidkbodmiegbkaaGreatDoorKdT
import Derived.Sort.Walk0
namespace Go.Proofs.YtidkbodmiegbkaaGreatDoor
set_option linter.unusedSimpArgs false
set_option linter.unusedVariables false
open Go.RowKit

theorem tx_tri (a b : List UInt8) : a < b ∨ a = b ∨ b < a := by
  rcases Classical.em (a < b) with h | h
  · exact .inl h
  · rcases Classical.em (b < a) with h' | h'
    · exact .inr (.inr h')
    · exact .inr (.inl (List.le_antisymm (List.not_lt.1 h') (List.not_lt.1 h)))
/-- rows in order that hold the same are the same -/
theorem asc_same : ∀ (l m : List (List UInt8)), l.Pairwise (· < ·) → m.Pairwise (· < ·) → (∀ x, x ∈ l ↔ x ∈ m) → l = m
  | [], [], _, _, _ => rfl
  | [], y :: m, _, _, h => by have := (h y).2 (by simp); simp at this
  | x :: l, [], _, _, h => by have := (h x).1 (by simp); simp at this
  | x :: l, y :: m, hl, hm, h => by
    have hl' := List.pairwise_cons.1 hl
    have hm' := List.pairwise_cons.1 hm
    have e : x = y := by
      rcases List.mem_cons.1 ((h x).1 (by simp)) with e | hx
      · exact e
      · rcases List.mem_cons.1 ((h y).2 (by simp)) with e | hy
        · exact e.symm
        · exact absurd (List.lt_trans (hm'.1 x hx) (hl'.1 y hy)) (List.lt_irrefl _)
    subst e
    rw [asc_same l m hl'.2 hm'.2 fun z => ?_]
    constructor
    · intro hz
      rcases List.mem_cons.1 ((h z).1 (by simp [hz])) with e | hz'
      · subst e; exact absurd (hl'.1 z hz) (List.lt_irrefl _)
      · exact hz'
    · intro hz
      rcases List.mem_cons.1 ((h z).2 (by simp [hz])) with e | hz'
      · subst e; exact absurd (hm'.1 z hz) (List.lt_irrefl _)
      · exact hz'
/-- a row of different texts, sorted -/
theorem sort_asc (l : List (List UInt8)) (hn : l.Nodup) : (l.mergeSort fun x y => decide (x ≤ y)).Pairwise (· < ·) := by
  have h1 : (l.mergeSort fun x y => decide (x ≤ y)).Pairwise (fun x y => decide (x ≤ y) = true) := List.pairwise_mergeSort (fun a b c h h' => by simp only [decide_eq_true_eq] at h h' ⊢; exact List.le_trans h h') (fun a b => by simp only [Bool.or_eq_true, decide_eq_true_eq]; exact List.le_total a b) l
  have h2 : (l.mergeSort fun x y => decide (x ≤ y)).Nodup := (List.mergeSort_perm l _).nodup_iff.2 hn
  refine (List.Pairwise.and h1 h2).imp fun {a b} h => ?_
  rcases tx_tri a b with g | g | g
  · exact g
  · exact absurd g h.2
  · have := h.1
    simp only [decide_eq_true_eq] at this
    exact absurd g (List.not_lt.2 this)
/-- which comes into question behind the row 'out' -/
def After (out : List (List UInt8)) (s : List UInt8) : Prop := ∀ x ∈ out, x < s
/-- the outer loop: the row is in order, holds free ones alone, and all the free ones that are not in it come behind it -/
structure LeastO (P : List UInt8 → Prop) (out : List (List UInt8)) : Prop where
  asc : out.Pairwise (· < ·)
  ins : ∀ x ∈ out, P x
  all : ∀ s, P s → s ∈ out ∨ After out s
theorem LeastO.nil (P : List UInt8 → Prop) : LeastO P [] := ⟨List.Pairwise.nil, fun x h => by simp at h, fun s _ => .inr fun x h => by simp at h⟩
theorem LeastO.add {P : List UInt8 → Prop} {out : List (List UInt8)} {s : List UInt8} (h : LeastO P out) (hs : P s) (ha : After out s) (hm : ∀ z, P z → After out z → ¬ z < s) : LeastO P (out ++ [s]) := by
  refine ⟨List.pairwise_append.2 ⟨h.asc, by simp, fun a haa b hb => by simp at hb; subst hb; exact ha a haa⟩, fun x hx => ?_, fun z hz => ?_⟩
  · rcases List.mem_append.1 hx with hx | hx
    · exact h.ins x hx
    · simp at hx; subst hx; exact hs
  · rcases h.all z hz with g | g
    · exact .inl (by simp [g])
    · rcases tx_tri s z with e | e | e
      · refine .inr fun x hx => ?_
        rcases List.mem_append.1 hx with hx | hx
        · exact g x hx
        · simp at hx; subst hx; exact e
      · exact .inl (by simp [e])
      · exact absurd e (hm z hz g)
theorem LeastO.done {P : List UInt8 → Prop} {out : List (List UInt8)} (h : LeastO P out) (hm : ∀ z, P z → ¬ After out z) (s : List UInt8) : s ∈ out ↔ P s :=
  ⟨h.ins s, fun hs => (h.all s hs).resolve_right (hm s hs)⟩
/-- behind the row means behind its last -/
theorem after_last {out : List (List UInt8)} {x s : List UInt8} (hp : (out ++ [x]).Pairwise (· < ·)) : After (out ++ [x]) s ↔ x < s := by
  refine ⟨fun h => h x (by simp), fun h y hy => ?_⟩
  rcases List.mem_append.1 hy with hy | hy
  · exact List.lt_trans ((List.pairwise_append.1 hp).2.2 y hy x (by simp)) h
  · simp at hy; subst hy; exact h
/-- the inner loop over the names: the least that comes into question so far -/
def LeastI (C : Nat → Prop) (nm : Nat → List UInt8) (i : Nat) (is : Bool) (s : List UInt8) : Prop :=
  (is = false ∧ ∀ j, j < i → ¬ C j) ∨ (is = true ∧ (∃ j, j < i ∧ C j ∧ nm j = s) ∧ ∀ j, j < i → C j → ¬ nm j < s)
theorem LeastI.zero (C : Nat → Prop) (nm : Nat → List UInt8) (s : List UInt8) : LeastI C nm 0 false s := .inl ⟨rfl, fun j h => by omega⟩
theorem LeastI.skip {C : Nat → Prop} {nm : Nat → List UInt8} {i : Nat} {is : Bool} {s : List UInt8} (h : LeastI C nm i is s) (hn : ¬ C i ∨ (is = true ∧ ¬ nm i < s)) : LeastI C nm (i + 1) is s := by
  rcases h with ⟨h1, h2⟩ | ⟨h1, ⟨j, hj, hc, hs⟩, h3⟩
  · refine .inl ⟨h1, fun j hj => ?_⟩
    rcases (by omega : j < i ∨ j = i) with g | rfl
    · exact h2 j g
    · rcases hn with hn | ⟨e, _⟩
      · exact hn
      · rw [h1] at e; cases e
  · refine .inr ⟨h1, ⟨j, by omega, hc, hs⟩, fun k hk hck => ?_⟩
    rcases (by omega : k < i ∨ k = i) with g | rfl
    · exact h3 k g hck
    · rcases hn with hn | ⟨_, e⟩
      · exact absurd hck hn
      · exact e
theorem LeastI.take {C : Nat → Prop} {nm : Nat → List UInt8} {i : Nat} {is : Bool} {s : List UInt8} (h : LeastI C nm i is s) (hc : C i) (hl : is = false ∨ nm i < s) : LeastI C nm (i + 1) true (nm i) := by
  refine .inr ⟨rfl, ⟨i, by omega, hc, rfl⟩, fun k hk hck => ?_⟩
  rcases (by omega : k < i ∨ k = i) with g | rfl
  · rcases h with ⟨_, h2⟩ | ⟨h1, _, h3⟩
    · exact absurd hck (h2 k g)
    · rcases hl with hl | hl
      · rw [h1] at hl; cases hl
      · exact fun e => h3 k g hck (List.lt_trans e hl)
  · exact List.lt_irrefl _
/-- what comes into question grows less by each that is taken -/
theorem count_less {p q : Nat → Bool} : ∀ (L : List Nat) {x : Nat}, x ∈ L → p x = false → q x = true → (∀ j, p j = true → q j = true) → L.countP p < L.countP q
  | [], x, h, _, _, _ => by simp at h
  | y :: L, x, h, hp, hq, hi => by
    have hle : ∀ L : List Nat, L.countP p ≤ L.countP q := fun L => List.countP_mono_left fun j _ => hi j
    rcases List.mem_cons.1 h with rfl | h
    · rw [List.countP_cons, List.countP_cons, hp, hq]
      have := hle L
      simp
      omega
    · have := count_less L h hp hq hi
      rw [List.countP_cons, List.countP_cons]
      cases e1 : p y with
      | false => simp; omega
      | true => rw [hi y e1]; simp; omega
end Go.Proofs.YtidkbodmiegbkaaGreatDoor
