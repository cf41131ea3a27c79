/- The row of languages, and what goes with one, in plain words: each once, behind all that it uses; the one itself at the end. -/
import Derived.Test.YtikplcpghohklaaGreatMClose
namespace Go.Proofs.YtikplcpghohklaaGreat
set_option linter.unusedSimpArgs false
set_option linter.unusedVariables false
open Go.RowKit

/-- a row so far: each once, each behind all that it uses -/
structure RowG (us : Web) (row : List Nat) : Prop where
  nodup : row.Nodup
  lt : ∀ n ∈ row, n < us.length
  ahead : ∀ (i n : Nat), row[i]? = some n → ∀ b, Edge us n b → ∃ j, j < i ∧ row[j]? = some b
theorem RowG.nil (us : Web) : RowG us [] := ⟨List.nodup_nil, fun n h => (by cases h), fun i n h => by simp at h⟩
theorem RowG.more {us : Web} {row : List Nat} {n : Nat} (h : RowG us row) (hn : nextN us row = some n) : RowG us (row ++ [n]) := by
  obtain ⟨h1, h2, h3, _⟩ := nextN_out hn
  refine ⟨?_, fun k hk => ?_, fun i k hk b e => ?_⟩
  · rw [List.nodup_append]
    exact ⟨h.nodup, by simp, fun a ha b hb => by simp at hb; subst hb; exact fun e => h2 (e ▸ ha)⟩
  · rcases List.mem_append.1 hk with hk | hk
    · exact h.lt k hk
    · simp at hk; subst hk; exact h1
  · rcases Nat.lt_or_ge i row.length with hi | hi
    · rw [List.getElem?_append_left hi] at hk
      obtain ⟨j, hj, hb⟩ := h.ahead i k hk b e
      exact ⟨j, hj, by rw [List.getElem?_append_left (by omega)]; exact hb⟩
    · have hil : i = row.length := by have := (List.getElem?_eq_some_iff.1 hk).1; simp at this; omega
      subst hil
      rw [List.getElem?_append_right (Nat.le_refl _)] at hk
      simp at hk
      subst hk
      obtain ⟨j, hj⟩ := List.mem_iff_getElem?.1 ((readyN_iff.1 h3).2 b e)
      have hjl := (List.getElem?_eq_some_iff.1 hj).1
      exact ⟨j, hjl, by rw [List.getElem?_append_left hjl]; exact hj⟩
theorem rowR_good {us : Web} : ∀ (f : Nat) (row : List Nat), RowG us row → RowG us (rowR us f row)
  | 0, _, h => h
  | f + 1, row, h => by
    unfold rowR
    cases hn : nextN us row with
    | none => exact h
    | some n => exact rowR_good f _ (h.more hn)
theorem rowR_len {us : Web} (hacy : ∀ a, ¬ Reach us a a) (hin : ∀ a b, Edge us a b → b < us.length) : ∀ (f : Nat) (row : List Nat), row.length + f ≤ us.length → (rowR us f row).length = row.length + f
  | 0, row, _ => rfl
  | f + 1, row, h => by
    obtain ⟨n, hn⟩ := nextN_some hacy hin (row := row) (by omega)
    rw [rowR_step hn, rowR_len hacy hin f _ (by simp; omega)]
    simp; omega
theorem rowN_good (us : Web) : RowG us (rowN us) := rowR_good _ _ (RowG.nil us)
theorem rowN_len {us : Web} (hacy : ∀ a, ¬ Reach us a a) (hin : ∀ a b, Edge us a b → b < us.length) : (rowN us).length = us.length := by
  have := rowR_len hacy hin us.length [] (by simp)
  simpa [rowN] using this
theorem rowN_all {us : Web} (hacy : ∀ a, ¬ Reach us a a) (hin : ∀ a b, Edge us a b → b < us.length) {n : Nat} (hn : n < us.length) : n ∈ rowN us := by
  refine Classical.byContradiction fun hno => ?_
  have hg := rowN_good us
  have := nodup_le us.length (n :: rowN us) (List.nodup_cons.2 ⟨hno, hg.nodup⟩) (fun x hx => by
    rcases List.mem_cons.1 hx with rfl | hx
    · exact hn
    · exact hg.lt x hx)
  rw [List.length_cons, rowN_len hacy hin] at this
  omega
/-- where a number stands in a row -/
def placeN (row : List Nat) (n : Int) : Int := firstAt (fun x : Int => decide (x = n)) (row.map fun (n : Nat) => (n : Int))
theorem placeN_at {row : List Nat} (hd : row.Nodup) {i n : Nat} (h : row[i]? = some n) : placeN row (n : Int) = (i : Int) := by
  refine firstAt_here (d := (n : Int)) (by rw [List.getElem?_map, h]; rfl) (by simp) (fun j d hj hd' => ?_)
  rw [List.getElem?_map] at hd'
  cases hx : row[j]? with
  | none => rw [hx] at hd'; cases hd'
  | some m =>
    rw [hx] at hd'
    injection hd' with hd'
    subst hd'
    have : m ≠ n := by
      rintro rfl
      have hjl := (List.getElem?_eq_some_iff.1 hx)
      have hil := (List.getElem?_eq_some_iff.1 h)
      have := (List.getElem_inj hd).1 (hjl.2.trans hil.2.symm)
      omega
    simp; omega
theorem placeN_lt {us : Web} {row : List Nat} (h : RowG us row) {i n b : Nat} (hi : row[i]? = some n) (e : Edge us n b) : 0 ≤ placeN row (b : Int) ∧ placeN row (b : Int) < (i : Int) := by
  obtain ⟨j, hj, hb⟩ := h.ahead i n hi b e
  rw [placeN_at h.nodup hb]
  omega
/-- what is leaned on stands ahead -/
theorem RowG.reach {us : Web} {row : List Nat} (h : RowG us row) {a b : Nat} (r : Reach us a b) : ∀ i : Nat, row[i]? = some a → ∃ j, j < i ∧ row[j]? = some b := by
  induction r with
  | one e => exact fun i hi => h.ahead i _ hi _ e
  | more _ e ih =>
    intro i hi
    obtain ⟨j, hj, hb⟩ := ih i hi
    obtain ⟨k, hk, hc⟩ := h.ahead j _ hb _ e
    exact ⟨k, by omega, hc⟩
/-- the language of a number that was found has the name -/
theorem findN_name {ls : List Language} {s : ByteArray} {k : Nat} (h : findN ls s = (k : Int)) : ∃ l, ls[k]? = some l ∧ l.name = s := by
  unfold findN firstAt at h
  cases hf : ls.findIdx? (fun x : Language => decide (x.name = s)) with
  | none => rw [hf] at h; simp only at h; omega
  | some i =>
    rw [hf] at h
    simp only at h
    obtain rfl : i = k := by omega
    obtain ⟨h0, h1, _⟩ := List.findIdx?_eq_some_iff_getElem.1 hf
    exact ⟨_, List.getElem?_eq_getElem h0, by simpa using h1⟩
theorem edge_use {ls : List Language} {k b : Nat} (e : Edge (webN ls) k b) : ∃ l s, ls[k]? = some l ∧ s ∈ l.uses ∧ (findN ls s).toNat = b := by
  obtain ⟨u, hu, hb⟩ := e
  unfold webN at hu
  rw [List.getElem?_map] at hu
  cases hl : ls[k]? with
  | none => rw [hl] at hu; cases hu
  | some l =>
    rw [hl] at hu
    injection hu with hu
    subst hu
    obtain ⟨s, hs, hsb⟩ := List.mem_map.1 hb
    exact ⟨l, s, rfl, hs, hsb⟩
theorem use_edge {ls : List Language} {k : Nat} {l : Language} {s : ByteArray} (hl : ls[k]? = some l) (hs : s ∈ l.uses) : Edge (webN ls) k (findN ls s).toNat :=
  ⟨_, webN_at hl, List.mem_map.2 ⟨s, hs, rfl⟩⟩
/-! what goes with one -/
section
variable {ls : List Language} {n : Nat}
theorem mem_close {k : Nat} : k ∈ closeN ls n ↔ k ∈ rowN (webN ls) ∧ (k = n ∨ Reach (webN ls) n k) := by
  classical
  unfold closeN
  rw [List.mem_filter, decide_eq_true_iff]
theorem close_nodup : (closeN ls n).Nodup := by
  classical
  exact (rowN_good (webN ls)).nodup.filter _
/-- those that go with one stand as in the row -/
theorem close_order {i a b : Nat} (ha : (closeN ls n)[i]? = some a) (hb : (closeN ls n)[i + 1]? = some b) : placeN (rowN (webN ls)) (a : Int) < placeN (rowN (webN ls)) (b : Int) := by
  classical
  have hg := rowN_good (webN ls)
  have hp : (rowN (webN ls)).Pairwise (fun (a b : Nat) => placeN (rowN (webN ls)) (a : Int) < placeN (rowN (webN ls)) (b : Int)) := by
    rw [List.pairwise_iff_getElem]
    intro i j hi hj hij
    rw [placeN_at hg.nodup (List.getElem?_eq_getElem hi), placeN_at hg.nodup (List.getElem?_eq_getElem hj)]
    omega
  have hf : (closeN ls n).Pairwise (fun (a b : Nat) => placeN (rowN (webN ls)) (a : Int) < placeN (rowN (webN ls)) (b : Int)) := hp.filter _
  rw [List.pairwise_iff_getElem] at hf
  have h1 := List.getElem?_eq_some_iff.1 ha
  have h2 := List.getElem?_eq_some_iff.1 hb
  have := hf i (i + 1) h1.1 h2.1 (Nat.lt_succ_self _)
  rw [h1.2, h2.2] at this
  exact this
/-- the one itself stands last -/
theorem close_last (hn : n ∈ rowN (webN ls)) : ∃ A, closeN ls n = A ++ [n] := by
  classical
  have hg := rowN_good (webN ls)
  obtain ⟨A, B, hAB⟩ := List.append_of_mem hn
  have hi : (rowN (webN ls))[A.length]? = some n := by rw [hAB]; simp
  have hB : B.filter (fun k => decide (k = n ∨ Reach (webN ls) n k)) = [] := by
    rw [List.filter_eq_nil_iff]
    intro k hk
    rw [decide_eq_true_iff]
    have hd := hg.nodup
    rw [hAB] at hd
    obtain ⟨j, hj⟩ := List.mem_iff_getElem?.1 hk
    have hrow : (rowN (webN ls))[A.length + 1 + j]? = some k := by rw [hAB, List.getElem?_append_right (by omega)]; simpa [Nat.add_assoc, Nat.add_comm 1 j] using hj
    rintro (rfl | hr)
    · have h1 := List.getElem?_eq_some_iff.1 hi
      have h2 := List.getElem?_eq_some_iff.1 hrow
      have := (List.getElem_inj hg.nodup).1 (h1.2.trans h2.2.symm)
      omega
    · obtain ⟨i, hil, hb⟩ := hg.reach hr _ hi
      have h1 := List.getElem?_eq_some_iff.1 hb
      have h2 := List.getElem?_eq_some_iff.1 hrow
      have := (List.getElem_inj hg.nodup).1 (h1.2.trans h2.2.symm)
      omega
  refine ⟨A.filter (fun k => decide (k = n ∨ Reach (webN ls) n k)), ?_⟩
  unfold closeN
  rw [hAB, List.filter_append, List.filter_cons_of_pos (by simp), hB]
/-- whom one of them uses goes along -/
theorem close_uses (hacy : ∀ a, ¬ Reach (webN ls) a a) (hin : AllFound ls) {k : Nat} {l : Language} {s : ByteArray} (hk : k ∈ closeN ls n) (hl : ls[k]? = some l) (hs : s ∈ l.uses) : (findN ls s).toNat ∈ closeN ls n := by
  have e := use_edge hl hs
  have hw := webN_in ls hin
  have hlen := webN_len ls
  refine mem_close.2 ⟨rowN_all hacy (by rw [hlen]; exact hw) (by rw [hlen]; exact hw _ _ e), .inr ?_⟩
  rcases (mem_close.1 hk).2 with rfl | h
  · exact .one e
  · exact .more h e
/-- each other one is used by one of them -/
theorem close_used (hacy : ∀ a, ¬ Reach (webN ls) a a) (hin : AllFound ls) (hn : n < ls.length) {k : Nat} (hk : k ∈ closeN ls n) (hkn : k ≠ n) : ∃ m l s l', m ∈ closeN ls n ∧ ls[m]? = some l ∧ s ∈ l.uses ∧ ls[k]? = some l' ∧ l'.name = s := by
  have hw := webN_in ls hin
  have hlen := webN_len ls
  have hall : ∀ m, m < ls.length → m ∈ rowN (webN ls) := fun m hm => rowN_all hacy (by rw [hlen]; exact hw) (by rw [hlen]; exact hm)
  rcases (mem_close.1 hk).2 with rfl | h
  · exact absurd rfl hkn
  · have key : ∀ m, (m = n ∨ Reach (webN ls) n m) → Edge (webN ls) m k → ∃ m l s l', m ∈ closeN ls n ∧ ls[m]? = some l ∧ s ∈ l.uses ∧ ls[k]? = some l' ∧ l'.name = s := by
      intro m hm e
      obtain ⟨l, s, h1, h2, h3⟩ := edge_use e
      have hf := hin l (List.mem_iff_getElem?.2 ⟨m, h1⟩) s h2
      obtain ⟨l', h4, h5⟩ := findN_name (ls := ls) (s := s) (k := k) (by omega)
      exact ⟨m, l, s, l', mem_close.2 ⟨hall m (List.getElem?_eq_some_iff.1 h1).1, hm⟩, h1, h2, h4, h5⟩
    cases h with
    | one e => exact key n (.inl rfl) e
    | more h e => exact key _ (.inr h) e
end
end Go.Proofs.YtikplcpghohklaaGreat
