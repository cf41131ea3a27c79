/- The languages in another order, in plain words: no fault in the one just if none in the other; the same go with a name. -/
import Derived.Test.YtikplcpghohklaaGreatModMore
namespace Go.Proofs.YtikplcpghohklaaGreat
set_option linter.unusedSimpArgs false
set_option linter.unusedVariables false
open Go.RowKit

/-- a language of the name s uses the name t -/
def NEdge (ls : List Language) (s t : ByteArray) : Prop := ∃ l ∈ ls, l.name = s ∧ t ∈ l.uses
inductive NReach (ls : List Language) : ByteArray → ByteArray → Prop
  | one {a b : ByteArray} (h : NEdge ls a b) : NReach ls a b
  | more {a b c : ByteArray} (h : NReach ls a b) (k : NEdge ls b c) : NReach ls a c
section
variable {ls ls' : List Language}
theorem NReach.perm (hp : ls.Perm ls') {a b : ByteArray} (h : NReach ls a b) : NReach ls' a b := by
  induction h with
  | one h => obtain ⟨l, hl, h⟩ := h; exact .one ⟨l, hp.mem_iff.1 hl, h⟩
  | more _ k ih => obtain ⟨l, hl, h⟩ := k; exact .more ih ⟨l, hp.mem_iff.1 hl, h⟩
theorem findN_le {i : Nat} {l : Language} (h : ls[i]? = some l) : findN ls l.name ≤ (i : Int) := by
  unfold findN firstAt
  cases hf : ls.findIdx? (fun x : Language => decide (x.name = l.name)) with
  | none => simp only; omega
  | some k =>
    simp only
    obtain ⟨hk, _, hn⟩ := List.findIdx?_eq_some_iff_getElem.1 hf
    by_cases hik : i < k
    · have h1 := hn i hik
      obtain ⟨hi, rfl⟩ := List.getElem?_eq_some_iff.1 h
      simp at h1
    · omega
theorem named_nodup (h : firstF (namedF ls) 0 ls = none) : (ls.map (·.name)).Nodup := by
  rw [List.Nodup, List.pairwise_iff_getElem]
  intro i j hi hj hij he
  simp only [List.length_map] at hi hj
  simp only [List.getElem_map] at he
  have h1 := firstF_none h j ls[j] (List.getElem?_eq_getElem hj)
  have h2 := findN_le (List.getElem?_eq_getElem hi)
  rw [he] at h2
  unfold namedF at h1
  rw [if_pos (by omega)] at h1
  cases h1
theorem name_inj (h : (ls.map (·.name)).Nodup) {i j : Nat} {a b : Language} (hi : ls[i]? = some a) (hj : ls[j]? = some b) (e : a.name = b.name) : i = j := by
  obtain ⟨hi', rfl⟩ := List.getElem?_eq_some_iff.1 hi
  obtain ⟨hj', rfl⟩ := List.getElem?_eq_some_iff.1 hj
  rw [List.Nodup, List.pairwise_iff_getElem] at h
  rcases Nat.lt_trichotomy i j with hl | hl | hl
  · exact absurd (by rw [List.getElem_map, List.getElem_map]; exact e) (h i j (by simpa using hi') (by simpa using hj') hl)
  · exact hl
  · exact absurd (by rw [List.getElem_map, List.getElem_map]; exact e.symm) (h j i (by simpa using hj') (by simpa using hi') hl)
theorem findN_at (h : (ls.map (·.name)).Nodup) {i : Nat} {l : Language} (hi : ls[i]? = some l) : findN ls l.name = (i : Int) := by
  have h0 : 0 ≤ findN ls l.name := findN_nonneg.2 ⟨l, List.mem_iff_getElem?.2 ⟨i, hi⟩, rfl⟩
  obtain ⟨k, hk⟩ : ∃ k : Nat, findN ls l.name = (k : Int) := ⟨(findN ls l.name).toNat, by omega⟩
  obtain ⟨l', h1, h2⟩ := findN_name hk
  rw [hk, name_inj h h1 hi h2]
theorem nodup_named (h : (ls.map (·.name)).Nodup) : firstF (namedF ls) 0 ls = none := by
  refine firstF_all ls 0 fun i x hx => ?_
  unfold namedF
  rw [findN_at h hx, if_neg (by omega)]
theorem edge_name (hf : AllFound ls) {a b : Nat} (e : Edge (webN ls) a b) : ∃ la lb, ls[a]? = some la ∧ ls[b]? = some lb ∧ NEdge ls la.name lb.name := by
  obtain ⟨l, s, h1, h2, h3⟩ := edge_use e
  have hm := List.mem_iff_getElem?.2 ⟨a, h1⟩
  have h0 := hf l hm s h2
  obtain ⟨l', h4, h5⟩ := findN_name (show findN ls s = (b : Int) by omega)
  exact ⟨l, l', h1, h4, l, hm, rfl, by rw [h5]; exact h2⟩
theorem reach_name (hf : AllFound ls) {a b : Nat} (r : Reach (webN ls) a b) : ∃ la lb, ls[a]? = some la ∧ ls[b]? = some lb ∧ NReach ls la.name lb.name := by
  induction r with
  | one h =>
    obtain ⟨la, lb, h1, h2, h3⟩ := edge_name hf h
    exact ⟨la, lb, h1, h2, .one h3⟩
  | more _ k ih =>
    obtain ⟨la, lb, h1, h2, h3⟩ := ih
    obtain ⟨lb', lc, k1, k2, k3⟩ := edge_name hf k
    obtain rfl : lb = lb' := Option.some.inj (h2.symm.trans k1)
    exact ⟨la, lc, h1, k2, .more h3 k3⟩
theorem name_edge (hn : (ls.map (·.name)).Nodup) (hf : AllFound ls) {s t : ByteArray} (h : NEdge ls s t) {a : Nat} {la : Language} (ha : ls[a]? = some la) (hs : la.name = s) : ∃ b lb, ls[b]? = some lb ∧ lb.name = t ∧ Edge (webN ls) a b := by
  obtain ⟨l, hl, h1, h2⟩ := h
  obtain ⟨k, hk⟩ := List.mem_iff_getElem?.1 hl
  obtain rfl := name_inj hn ha hk (hs.trans h1.symm)
  have h0 := hf l hl t h2
  obtain ⟨b, hb⟩ : ∃ b : Nat, findN ls t = (b : Int) := ⟨(findN ls t).toNat, by omega⟩
  obtain ⟨lb, h3, h4⟩ := findN_name hb
  refine ⟨b, lb, h3, h4, ?_⟩
  have e := use_edge hk h2
  rw [hb, Int.toNat_natCast] at e
  exact e
theorem name_reach (hn : (ls.map (·.name)).Nodup) (hf : AllFound ls) {s t : ByteArray} (h : NReach ls s t) {a : Nat} {la : Language} (ha : ls[a]? = some la) (hs : la.name = s) : ∃ b lb, ls[b]? = some lb ∧ lb.name = t ∧ Reach (webN ls) a b := by
  induction h with
  | one h =>
    obtain ⟨b, lb, h1, h2, h3⟩ := name_edge hn hf h ha hs
    exact ⟨b, lb, h1, h2, .one h3⟩
  | more _ k ih =>
    obtain ⟨b, lb, h1, h2, h3⟩ := ih
    obtain ⟨c, lc, k1, k2, k3⟩ := name_edge hn hf k h1 h2
    exact ⟨c, lc, k1, k2, .more h3 k3⟩
theorem found_perm (hp : ls.Perm ls') {s : ByteArray} : 0 ≤ findN ls s ↔ 0 ≤ findN ls' s := by
  rw [findN_nonneg, findN_nonneg]
  exact ⟨fun ⟨l, h1, h2⟩ => ⟨l, hp.mem_iff.1 h1, h2⟩, fun ⟨l, h1, h2⟩ => ⟨l, hp.mem_iff.2 h1, h2⟩⟩
theorem fault_perm (hp : ls.Perm ls') (h : faultN ls = none) : faultN ls' = none := by
  obtain ⟨h0, h1, h2, h3, h4⟩ := fault_none h
  have hf := found_of h3
  have hac := acyc_of h4
  have hn := named_nodup h2
  have hn' : (ls'.map (·.name)).Nodup := (hp.map _).nodup_iff.1 hn
  have hf' : AllFound ls' := fun l hl s hs => (found_perm hp).1 (hf l (hp.mem_iff.2 hl) s hs)
  refine fault_of (by rw [← hp.length_eq]; exact h0) ?_ (nodup_named hn') ?_ ?_
  · refine firstF_all ls' 0 fun i x hx => ?_
    obtain ⟨j, hj⟩ := List.mem_iff_getElem?.1 (hp.mem_iff.2 (List.mem_iff_getElem?.2 ⟨i, hx⟩))
    have h5 := firstF_none h1 j x hj
    by_cases hc : (checkE x).err = 0
    · exact aloneF_none hc
    · rw [aloneF_some hc] at h5
      cases h5
  · refine firstF_all ls' 0 fun i x hx => ?_
    unfold usedF
    refine firstF_all x.uses 0 fun j s hs => ?_
    unfold usedG
    have h6 := hf' x (List.mem_iff_getElem?.2 ⟨i, hx⟩) s (List.mem_iff_getElem?.2 ⟨j, hs⟩)
    rw [if_neg (by omega)]
  · refine firstF_all ls' 0 fun i x hx => ?_
    unfold ringF
    refine firstF_all x.uses 0 fun j s hs => ?_
    unfold ringG
    refine if_neg fun r => ?_
    have e := use_edge hx (List.mem_iff_getElem?.2 ⟨j, hs⟩)
    rw [Nat.zero_add] at r
    obtain ⟨la, lb, k1, k2, k3⟩ := reach_name hf' ((Reach.one e).trans r)
    obtain rfl : la = lb := Option.some.inj (k1.symm.trans k2)
    obtain ⟨k, hk⟩ := List.mem_iff_getElem?.1 (hp.mem_iff.2 (List.mem_iff_getElem?.2 ⟨i, k1⟩))
    obtain ⟨b, lb, m1, m2, m3⟩ := name_reach hn hf (k3.perm hp.symm) hk rfl
    obtain rfl := name_inj hn hk m1 m2.symm
    exact hac _ m3
/-- what goes with a name, by name -/
theorem close_name (h : faultN ls = none) {name : ByteArray} {m : Nat} (hm : findN ls name = (m : Int)) {k : Nat} : k ∈ closeN ls m ↔ ∃ l, ls[k]? = some l ∧ (l.name = name ∨ NReach ls name l.name) := by
  obtain ⟨h0, h1, h2, h3, h4⟩ := fault_none h
  have hf := found_of h3
  have hac := acyc_of h4
  have hn := named_nodup h2
  obtain ⟨lm, hlm, hname⟩ := findN_name hm
  have hin : ∀ a b, Edge (webN ls) a b → b < (webN ls).length := by rw [webN_len]; exact webN_in ls hf
  rw [mem_close]
  constructor
  · rintro ⟨hk, hr⟩
    have hlt := (rowN_good (webN ls)).lt k hk
    rw [webN_len] at hlt
    refine ⟨ls[k], List.getElem?_eq_getElem hlt, ?_⟩
    rcases hr with rfl | r
    · left
      rw [List.getElem?_eq_getElem hlt] at hlm
      rw [Option.some.inj hlm]
      exact hname
    · right
      obtain ⟨la, lb, k1, k2, k3⟩ := reach_name hf r
      rw [hlm] at k1
      obtain rfl := Option.some.inj k1
      rw [List.getElem?_eq_getElem hlt] at k2
      rw [Option.some.inj k2, ← hname]
      exact k3
  · rintro ⟨l, hl, hr⟩
    refine ⟨rowN_all hac hin (by rw [webN_len]; exact (List.getElem?_eq_some_iff.1 hl).1), ?_⟩
    rcases hr with e | r
    · left
      exact name_inj hn hl hlm (e.trans hname.symm)
    · right
      obtain ⟨b, lb, k1, k2, k3⟩ := name_reach hn hf r hlm hname
      obtain rfl := name_inj hn k1 hl k2
      exact k3
/-- the same go with a name, in whatever order the languages stand -/
theorem close_turn (hp : ls.Perm ls') (h : faultN ls = none) {name : ByteArray} {m m' : Nat} (hm : findN ls name = (m : Int)) (hm' : findN ls' name = (m' : Int)) {k : Nat} (hk : k ∈ closeN ls m) :
    ∃ (l : Language) (k' : Nat), ls[k]? = some l ∧ findN ls' l.name = (k' : Int) ∧ k' ∈ closeN ls' m' := by
  have h' := fault_perm hp h
  obtain ⟨l, hl, hr⟩ := (close_name h hm).1 hk
  obtain ⟨k', hk'⟩ := List.mem_iff_getElem?.1 (hp.mem_iff.1 (List.mem_iff_getElem?.2 ⟨k, hl⟩))
  have hn' := named_nodup (fault_none h').2.2.1
  refine ⟨l, k', hl, findN_at hn' hk', (close_name h' hm').2 ⟨l, hk', ?_⟩⟩
  rcases hr with e | r
  · exact .inl e
  · exact .inr (r.perm hp)
end
theorem len_le_of {α β : Type} {l : List α} {m : List β} (f : α → β) (hl : l.Nodup) (hf : ∀ a ∈ l, f a ∈ m) (hi : ∀ a ∈ l, ∀ b ∈ l, f a = f b → a = b) : l.length ≤ m.length := by
  induction l generalizing m with
  | nil => simp
  | cons x t ih =>
    rw [List.nodup_cons] at hl
    obtain ⟨A, B, rfl⟩ := List.append_of_mem (hf x (by simp))
    have := ih (m := A ++ B) hl.2 (fun a ha => by
      have h1 := hf a (by simp [ha])
      have h2 : f a ≠ f x := fun e => hl.1 (hi a (by simp [ha]) x (by simp) e ▸ ha)
      simp at h1 ⊢
      rcases h1 with h1 | h1 | h1
      · exact .inl h1
      · exact absurd h1 h2
      · exact .inr h1) (fun a ha b hb => hi a (by simp [ha]) b (by simp [hb]))
    simp at this ⊢
    omega
theorem close_len_le {ls ls' : List Language} (hp : ls.Perm ls') (h : faultN ls = none) {name : ByteArray} {m m' : Nat} (hm : findN ls name = (m : Int)) (hm' : findN ls' name = (m' : Int)) : (closeN ls m).length ≤ (closeN ls' m').length := by
  have hn' := named_nodup (fault_none (fault_perm hp h)).2.2.1
  have hn := named_nodup (fault_none h).2.2.1
  refine len_le_of (fun k => (findN ls' ((ls[k]?).elim ByteArray.empty (·.name))).toNat) close_nodup ?_ ?_
  · intro k hk
    obtain ⟨l, k', h1, h2, h3⟩ := close_turn hp h hm hm' hk
    simp only [h1, Option.elim, h2, Int.toNat_natCast]
    exact h3
  · intro a ha b hb he
    obtain ⟨l, k', h1, h2, h3⟩ := close_turn hp h hm hm' ha
    obtain ⟨l2, k2, g1, g2, g3⟩ := close_turn hp h hm hm' hb
    simp only [h1, g1, Option.elim, h2, g2, Int.toNat_natCast] at he
    subst he
    obtain ⟨p, p1, p2⟩ := findN_name h2
    obtain ⟨q, q1, q2⟩ := findN_name g2
    rw [p1] at q1
    obtain rfl := Option.some.inj q1
    exact name_inj hn h1 g1 (p2.symm.trans q2)
theorem close_len {ls ls' : List Language} (hp : ls.Perm ls') (h : faultN ls = none) {name : ByteArray} {m m' : Nat} (hm : findN ls name = (m : Int)) (hm' : findN ls' name = (m' : Int)) : (closeN ls m).length = (closeN ls' m').length :=
  Nat.le_antisymm (close_len_le hp h hm hm') (close_len_le hp.symm (fault_perm hp h) hm' hm)
end Go.Proofs.YtikplcpghohklaaGreat
