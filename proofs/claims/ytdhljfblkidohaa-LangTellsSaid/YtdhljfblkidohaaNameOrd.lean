/- Names in order, each once, in plain words: what is put in its place one by one is what is sorted and compacted. -/
import Derived.Test.YtdhljfblkidohaaNames
import Derived.Sort.Walk0
namespace Go.Proofs.Ytdhljfblkidohaa
set_option linter.unusedSimpArgs false
set_option linter.unusedVariables false
open Go.RowKit

/-- a name put in its place -/
def insL : List (List UInt8) → List UInt8 → List (List UInt8)
  | [], s => [s]
  | x :: r, s => if x < s then x :: insL r s else if x = s then x :: r else s :: x :: r
theorem lt_other {a b : List UInt8} (h : ¬ a < b) (hn : ¬ a = b) : b < a := Std.lt_of_le_of_ne h fun e => hn e.symm
theorem insL_mem : ∀ (l : List (List UInt8)) (s x : List UInt8), x ∈ insL l s ↔ x ∈ l ∨ x = s
  | [], s, x => by simp [insL]
  | y :: r, s, x => by
    unfold insL
    split
    · rw [List.mem_cons, insL_mem r s x, List.mem_cons, or_assoc]
    · split
      · rename_i h
        subst h
        simp only [List.mem_cons]
        constructor
        · rintro (h | h)
          · exact .inl (.inl h)
          · exact .inl (.inr h)
        · rintro ((h | h) | h)
          · exact .inl h
          · exact .inr h
          · exact .inl h
      · simp only [List.mem_cons]
        constructor
        · rintro (h | h)
          · exact .inr h
          · exact .inl h
        · rintro (h | h)
          · exact .inr h
          · exact .inl h
theorem insL_sorted : ∀ (l : List (List UInt8)) (s : List UInt8), l.Pairwise (fun x y => x < y) → (insL l s).Pairwise (fun x y => x < y)
  | [], s, _ => List.pairwise_singleton _ _
  | y :: r, s, h => by
    rw [List.pairwise_cons] at h
    unfold insL
    split
    · rename_i hlt
      refine List.pairwise_cons.2 ⟨fun z hz => ?_, insL_sorted r s h.2⟩
      rcases (insL_mem r s z).1 hz with hz | rfl
      · exact h.1 z hz
      · exact hlt
    · split
      · exact List.pairwise_cons.2 h
      · rename_i h1 h2
        have hs := lt_other h1 h2
        refine List.pairwise_cons.2 ⟨fun z hz => ?_, List.pairwise_cons.2 h⟩
        rcases List.mem_cons.1 hz with rfl | hz
        · exact hs
        · exact List.lt_trans hs (h.1 z hz)
theorem sorted_eq : ∀ (l m : List (List UInt8)), l.Pairwise (fun x y => x < y) → m.Pairwise (fun x y => x < y) → (∀ x, x ∈ l ↔ x ∈ m) → l = m
  | [], m, _, _, h => by
    cases m with
    | nil => rfl
    | cons b m => exact absurd ((h b).2 (List.mem_cons_self)) (by simp)
  | a :: l, [], _, _, h => absurd ((h a).1 (List.mem_cons_self)) (by simp)
  | a :: l, b :: m, hl, hm, h => by
    rw [List.pairwise_cons] at hl hm
    have hab : a = b := by
      rcases List.mem_cons.1 ((h a).1 List.mem_cons_self) with e | e
      · exact e
      · rcases List.mem_cons.1 ((h b).2 List.mem_cons_self) with e2 | e2
        · exact e2.symm
        · exact absurd (List.lt_trans (hl.1 b e2) (hm.1 a e)) (List.lt_irrefl a)
    subst hab
    rw [sorted_eq l m hl.2 hm.2 (fun x => ?_)]
    constructor
    · intro hx
      rcases List.mem_cons.1 ((h x).1 (List.mem_cons_of_mem _ hx)) with e | e
      · subst e
        exact absurd (hl.1 x hx) (List.lt_irrefl x)
      · exact e
    · intro hx
      rcases List.mem_cons.1 ((h x).2 (List.mem_cons_of_mem _ hx)) with e | e
      · subst e
        exact absurd (hm.1 x hx) (List.lt_irrefl x)
      · exact e
/-- a sorted row compacted -/
theorem compact_upto (d : Array (List UInt8)) (hd : ∀ i j, i < j → j < d.size → d[i]! ≤ d[j]!) : ∀ m, m ≤ d.size → (Go.Lib.compactUpTo d m).Pairwise (fun x y => x < y) ∧ (∀ x, x ∈ Go.Lib.compactUpTo d m ↔ ∃ j, j < m ∧ x = d[j]!)
  | 0, _ => ⟨by simp [Go.Lib.compactUpTo], fun x => by simp [Go.Lib.compactUpTo]⟩
  | m + 1, hm => by
    obtain ⟨h1, h2⟩ := compact_upto d hd m (by omega)
    rw [Go.Lib.compactUpTo_succ]
    by_cases hk : Go.Lib.keeps d m = true
    · rw [if_pos hk]
      refine ⟨List.pairwise_append.2 ⟨h1, List.pairwise_singleton _ _, fun a ha b hb => ?_⟩, fun x => ?_⟩
      · rw [List.mem_singleton] at hb
        subst hb
        obtain ⟨j, hj, rfl⟩ := (h2 a).1 ha
        have hne : d[m]! ≠ d[m - 1]! := by
          intro he
          rw [Go.Lib.keeps_neg (by omega) he] at hk
          cases hk
        have hlast : d[m - 1]! < d[m]! := Std.lt_of_le_of_ne (hd (m - 1) m (by omega) (by omega)) (fun e => hne e.symm)
        rcases Nat.lt_or_ge j (m - 1) with hlt | hge
        · exact List.lt_of_le_of_lt (hd j (m - 1) hlt (by omega)) hlast
        · obtain rfl : j = m - 1 := by omega
          exact hlast
      · rw [List.mem_append, List.mem_singleton, h2]
        constructor
        · rintro (⟨j, hj, rfl⟩ | rfl)
          · exact ⟨j, by omega, rfl⟩
          · exact ⟨m, by omega, rfl⟩
        · rintro ⟨j, hj, rfl⟩
          rcases Nat.lt_or_ge j m with hlt | hge
          · exact .inl ⟨j, hlt, rfl⟩
          · obtain rfl : j = m := by omega
            exact .inr rfl
    · rw [if_neg hk, List.append_nil]
      refine ⟨h1, fun x => ?_⟩
      rw [h2]
      constructor
      · rintro ⟨j, hj, rfl⟩
        exact ⟨j, by omega, rfl⟩
      · rintro ⟨j, hj, rfl⟩
        rcases Nat.lt_or_ge j m with hlt | hge
        · exact ⟨j, hlt, rfl⟩
        · obtain rfl : j = m := by omega
          rcases Nat.eq_zero_or_pos j with h0 | h0
          · subst h0
            exact absurd (Go.Lib.keeps_lt_one d 0 (by omega)) hk
          · refine ⟨j - 1, by omega, ?_⟩
            rcases Classical.em (d[j]! = d[j - 1]!) with he | he
            · exact he
            · exact absurd (Go.Lib.keeps_pos he) hk
theorem compact_sorted {l : List (List UInt8)} (hl : l.Pairwise (fun x y => x ≤ y)) : (Go.Lib.compact l).Pairwise (fun x y => x < y) ∧ ∀ x, x ∈ Go.Lib.compact l ↔ x ∈ l := by
  have hd : ∀ i j, i < j → j < l.toArray.size → l.toArray[i]! ≤ l.toArray[j]! := fun i j hij hj => by
    have hj' : j < l.length := by simpa using hj
    rw [getElem!_pos l.toArray i (by simp; omega), getElem!_pos l.toArray j hj]
    exact List.pairwise_iff_getElem.1 hl i j (by omega) hj' hij
  obtain ⟨h1, h2⟩ := compact_upto l.toArray hd l.length (by simp)
  refine ⟨h1, fun x => ?_⟩
  unfold Go.Lib.compact
  rw [h2]
  constructor
  · rintro ⟨j, hj, rfl⟩
    rw [getElem!_pos l.toArray j (by simpa using hj)]
    simp
  · intro hx
    obtain ⟨j, hj⟩ := List.mem_iff_getElem?.1 hx
    have hjl := (List.getElem?_eq_some_iff.1 hj).1
    refine ⟨j, hjl, ?_⟩
    rw [getElem!_pos l.toArray j (by simpa using hjl)]
    simp [(List.getElem?_eq_some_iff.1 hj).2]
theorem fold_sorted : ∀ (l out : List (List UInt8)), out.Pairwise (fun x y => x < y) → (l.foldl insL out).Pairwise (fun x y => x < y) ∧ ∀ x, x ∈ l.foldl insL out ↔ x ∈ out ∨ x ∈ l
  | [], out, h => ⟨h, fun x => by simp⟩
  | s :: l, out, h => by
    obtain ⟨h1, h2⟩ := fold_sorted l (insL out s) (insL_sorted out s h)
    refine ⟨h1, fun x => ?_⟩
    show x ∈ l.foldl insL (insL out s) ↔ _
    rw [h2, insL_mem, List.mem_cons, or_assoc]
theorem fold_names (l : List ByteArray) : ((l.map bsL).foldl insL []).map ofL = sortedN l := by
  unfold sortedN
  congr 1
  have hs : ((l.map bsL).mergeSort fun x y => decide (x ≤ y)).Pairwise (fun x y => x ≤ y) := by
    have := List.pairwise_mergeSort (le := fun (x y : List UInt8) => decide (x ≤ y)) (fun a b c h1 h2 => by simp at h1 h2 ⊢; exact List.le_trans h1 h2) (fun a b => by simp; exact List.le_total a b) (l.map bsL)
    exact this.imp (fun h => by simpa using h)
  obtain ⟨h1, h2⟩ := compact_sorted hs
  obtain ⟨h3, h4⟩ := fold_sorted (l.map bsL) [] List.Pairwise.nil
  refine sorted_eq _ _ h3 h1 (fun x => ?_)
  rw [h4, h2, List.mem_mergeSort]
  simp
/-- where a name's place is -/
theorem insL_at : ∀ (k : Nat) (l : List (List UInt8)) (s : List UInt8), k ≤ l.length → (∀ i x, i < k → l[i]? = some x → x < s) → (∀ x, l[k]? = some x → ¬ x < s) → insL l s = if l[k]? = some s then l else l.take k ++ s :: l.drop k
  | 0, [], s, _, _, _ => by simp [insL]
  | 0, x :: r, s, _, _, h2 => by
    have h := h2 x rfl
    unfold insL
    rw [if_neg h]
    by_cases e : x = s
    · subst e
      simp
    · rw [if_neg e, if_neg (by simpa using e)]
      simp
  | k + 1, [], s, hk, _, _ => by simp at hk
  | k + 1, x :: r, s, hk, h1, h2 => by
    have h := h1 0 x (by omega) rfl
    have ih := insL_at k r s (by simpa using hk) (fun i y hi hy => h1 (i + 1) y (by omega) (by simpa using hy)) (fun y hy => h2 y (by simpa using hy))
    unfold insL
    rw [if_pos h, ih]
    simp only [List.getElem?_cons_succ, List.take_succ_cons, List.drop_succ_cons, List.cons_append]
    split <;> rfl
end Go.Proofs.Ytdhljfblkidohaa
