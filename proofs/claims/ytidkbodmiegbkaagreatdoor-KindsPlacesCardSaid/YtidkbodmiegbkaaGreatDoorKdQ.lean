/- Chapter 09, plain words: what a node stands below (Und); whose part a node is; is a name bound. -/
import Derived.Test.YtidkbodmiegbkaaGreatDoorKdP
namespace Go.Proofs.YtidkbodmiegbkaaGreatDoor
set_option linter.unusedSimpArgs false
set_option linter.unusedVariables false

theorem kR_up : ∀ (f : Nat) (t : Tr) (vs : List (List Nat)), t.deep ≤ f → kR (f + 1) t vs = kR f t vs
  | 0, .node k s n ks, vs, h => by simp only [Tr.deep] at h; omega
  | f + 1, .node k s n ks, vs, h => by
    have hd := deep_one h
    have e : ofK (f + 1) k s ks vs ks.length = ofK f k s ks vs ks.length := by
      unfold ofK
      refine List.map_congr_left fun i hi => ?_
      unfold kidK
      rcases ht : ks[i]? with _ | t
      · rfl
      · simp only
        exact kR_up f t _ (Nat.le_trans (deep_at ht) hd)
    rw [kR_succ, kR_succ, e]
theorem kR_fuel {f g : Nat} {t : Tr} {vs : List (List Nat)} (hf : t.deep ≤ f) (hg : f ≤ g) : kR g t vs = kR f t vs := by
  obtain ⟨d, rfl⟩ := Nat.exists_eq_add_of_le hg
  induction d with
  | zero => rfl
  | succ d ih => rw [show f + (d + 1) = f + d + 1 by omega, kR_up _ _ _ (by omega)]; exact ih (by omega)
/-- under these names a tree stands here -/
inductive Und (l : List ND) : List (List Nat) → Nat → Tr → Prop
  | root {t : Tr} : Stands l t 0 → l.length = t.size → Und l [] 0 t
  | kid {vs : List (List Nat)} {p k : Nat} {s : List Nat} {n : Int} {ks : List Tr} {j q : Nat} {u : Tr} : Und l vs p (.node k s n ks) → ks[j]? = some u → (placesL ks (p + 1))[j]? = some q → Und l (vsK k s vs j) q u
theorem Und.stands {l : List ND} {vs : List (List Nat)} {p : Nat} {t : Tr} (h : Und l vs p t) : Stands l t p := by
  induction h with
  | root h1 h2 => exact h1
  | kid h1 h2 h3 ih =>
    obtain ⟨q', h4, h5⟩ := stands_at (stands_node ih).2 h2
    rw [h4] at h3
    injection h3 with h3
    subst h3
    exact h5
theorem Und.inv {l : List ND} {vs : List (List Nat)} {p : Nat} {t : Tr} (h : Und l vs p t) : ∀ i d, i < p → l[i]? = some d → ∀ x ∈ d.kids, x ≤ (p : Int) ∨ ((p + t.size : Nat) : Int) ≤ x := by
  induction h with
  | root h1 h2 => intro i d hi; omega
  | @kid vs p k s n ks j q u h1 h2 h3 ih =>
    intro i d hi hd x hx
    obtain ⟨e1, e2⟩ := stands_node h1.stands
    have hin := places_in ks _ q (List.mem_iff_getElem?.2 ⟨j, h3⟩)
    have hj : j < ks.length := (List.getElem?_eq_some_iff.1 h2).1
    have hpg := places_get (p := p + 1) hj
    rw [h3] at hpg
    injection hpg with hpg
    have hts := sizeL_take h2
    by_cases h4 : i < p
    · have := ih i d h4 hd x hx
      simp only [Tr.size] at this
      omega
    · by_cases h5 : i = p
      · subst h5
        rw [e1] at hd
        injection hd with hd
        subst hd
        obtain ⟨y, hy, rfl⟩ := List.mem_map.1 hx
        obtain ⟨m, hm⟩ := List.mem_iff_getElem?.1 hy
        have hml : m < ks.length := by
          have := (List.getElem?_eq_some_iff.1 hm).1
          rwa [places_len] at this
        rcases Nat.lt_trichotomy m j with h6 | h6 | h6
        · have := places_lt ks _ m j y q hm h3 h6; omega
        · subst h6; rw [hm] at h3; injection h3 with h3; omega
        · have hyg := places_get (p := i + 1) hml
          rw [hm] at hyg
          injection hyg with hyg
          have hle : sizeL (ks.take (j + 1)) ≤ sizeL (ks.take m) := by
            have : (ks.take m).take (j + 1) = ks.take (j + 1) := by rw [List.take_take, Nat.min_eq_left (by omega)]
            have hmono : ∀ (ts : List Tr) (r : Nat), sizeL (ts.take r) ≤ sizeL ts := by
              intro ts
              induction ts with
              | nil => intro r; simp [sizeL]
              | cons t ts ih2 => intro r; cases r with
                | zero => simp [sizeL]
                | succ r => simp only [List.take_succ_cons, sizeL]; have := ih2 r; omega
            have := hmono (ks.take m) (j + 1)
            rwa [List.take_take, Nat.min_eq_left (by omega)] at this
          rw [sizeL_take_succ h2] at hle
          omega
      · have := standsL_before ks _ j q e2 h3 i d (by omega) hi hd x hx
        omega
/-- whose part a node is, and the how manyth: the first that is found -/
def upF (l : List ND) (a : Int) : Int × Int := match l.findIdx? (fun d => d.kids.any (fun x => decide (x = a))) with
  | some i => ((i : Int), (((match l[i]? with | some d => d.kids | none => []).findIdx (fun x => decide (x = a)) : Nat) : Int))
  | none => (-1, 0)
theorem upF_root {l : List ND} {t : Tr} (h : Stands l t 0) (hl : l.length = t.size) : upF l 0 = (-1, 0) := by
  unfold upF
  have : l.findIdx? (fun d => d.kids.any (fun x => decide (x = 0))) = none := by
    rw [List.findIdx?_eq_none_iff]
    intro d hd
    obtain ⟨i, hi⟩ := List.mem_iff_getElem?.1 hd
    rw [List.any_eq_false]
    intro x hx
    have := stands_kids t 0 h i d (Nat.zero_le _) (by have := (List.getElem?_eq_some_iff.1 hi).1; omega) hi x hx
    simp
    omega
  rw [this]
theorem upF_kid {l : List ND} {vs : List (List Nat)} {p k : Nat} {s : List Nat} {n : Int} {ks : List Tr} {j q : Nat} (h : Und l vs p (.node k s n ks)) (hq : (placesL ks (p + 1))[j]? = some q) : upF l (q : Int) = ((p : Int), (j : Int)) := by
  obtain ⟨e1, e2⟩ := stands_node h.stands
  have hin := places_in ks _ q (List.mem_iff_getElem?.2 ⟨j, hq⟩)
  have hpl := (List.getElem?_eq_some_iff.1 e1).1
  have hfi : l.findIdx? (fun d => d.kids.any (fun x => decide (x = (q : Int)))) = some p := by
    rw [List.findIdx?_eq_some_iff_getElem]
    refine ⟨hpl, ?_, fun i hi => ?_⟩
    · rw [(List.getElem?_eq_some_iff.1 e1).2]
      rw [List.any_eq_true]
      exact ⟨(q : Int), List.mem_map.2 ⟨q, List.mem_iff_getElem?.2 ⟨j, hq⟩, rfl⟩, by simp⟩
    · rw [Bool.not_eq_true, List.any_eq_false]
      intro x hx
      have := h.inv i _ hi (List.getElem?_eq_getElem (by omega)) x hx
      simp only [Tr.size] at this
      simp
      omega
  unfold upF
  rw [hfi]
  simp only [e1]
  congr 2
  have hjl : j < (placesL ks (p + 1)).length := (List.getElem?_eq_some_iff.1 hq).1
  have hjm : j < ((placesL ks (p + 1)).map fun n : Nat => (n : Int)).length := by rw [List.length_map]; exact hjl
  rw [List.findIdx_eq hjm]
  refine ⟨?_, fun i hi => ?_⟩
  · rw [List.getElem_map, (List.getElem?_eq_some_iff.1 hq).2]; simp
  · rw [List.getElem_map]
    have hi2 : (placesL ks (p + 1))[i]? = some ((placesL ks (p + 1))[i]'(by omega)) := List.getElem?_eq_getElem _
    have := places_lt ks _ i j _ q hi2 hq hi
    simp
    omega
/-- is a name bound here? -/
def boundN (l : List ND) (s : List Nat) : Nat → Int → Bool
  | 0, _ => false
  | f + 1, a => if a < 0 then false else
    if decide (0 ≤ (upF l a).1) && decide ((upF l a).2 = 1) && (match l[(upF l a).1.toNat]? with | some d => decide (31 ≤ d.kind ∧ d.kind ≤ 34) && decide (d.text = s) | none => false) then true else boundN l s f (upF l a).1
theorem boundN_neg {l : List ND} {s : List Nat} {f : Nat} {a : Int} (h : a < 0) : boundN l s f a = false := by
  cases f with
  | zero => rfl
  | succ f => simp [boundN, h]
theorem bound_law {l : List ND} {vs : List (List Nat)} {p : Nat} {t : Tr} (h : Und l vs p t) (s : List Nat) : ∀ f, p < f → boundN l s f (p : Int) = decide (s ∈ vs) := by
  induction h with
  | root h1 h2 =>
    intro f hf
    obtain ⟨f, rfl⟩ : ∃ g, f = g + 1 := ⟨f - 1, by omega⟩
    have hu := upF_root h1 h2
    simp only [boundN]
    rw [if_neg (by simp), show ((0 : Nat) : Int) = 0 from rfl, hu]
    simp [boundN_neg]
  | @kid vs p k s' n ks j q u h1 h2 h3 ih =>
    intro f hf
    obtain ⟨f, rfl⟩ : ∃ g, f = g + 1 := ⟨f - 1, by omega⟩
    have hu := upF_kid h1 h3
    have hin := places_in ks _ q (List.mem_iff_getElem?.2 ⟨j, h3⟩)
    obtain ⟨e1, e2⟩ := stands_node h1.stands
    simp only [boundN]
    rw [if_neg (by omega), hu]
    simp only [Int.toNat_natCast, e1]
    have ih' := ih f (by omega)
    unfold vsK
    by_cases hc : j = 1 ∧ 31 ≤ k ∧ k ≤ 34
    · rw [if_pos hc]
      by_cases hs : s' = s
      · subst hs
        rw [if_pos]
        · simp
        · simp
          omega
      · rw [if_neg, ih']
        · have : ¬ s = s' := fun e => hs e.symm
          simp [this]
        · simp [hs]
    · rw [if_neg hc, if_neg, ih']
      simp
      omega
/-- every node of the whole stands below; its kind is among all nodes' kinds -/
theorem und_at {l : List ND} : ∀ {f : Nat} {t : Tr} {vs : List (List Nat)} {p : Nat}, t.deep ≤ f → Und l vs p t → ∀ i, i < t.size → ∃ u vs', Und l vs' (p + i) u ∧ u.deep ≤ f ∧ (ksR f t vs)[i]? = some (kR f u vs')
  | 0, .node k s n ks, vs, p, hd, h, i, hi => by simp only [Tr.deep] at hd; omega
  | f + 1, .node k s n ks, vs, p, hd, h, i, hi => by
    have hd1 := deep_one hd
    rcases i with _ | i
    · exact ⟨_, vs, h, hd, by rw [ksR_succ]; rfl⟩
    · simp only [Tr.size] at hi
      rw [ksR_succ]
      simp only [List.getElem?_cons_succ]
      have key : ∀ j, j ≤ ks.length → ∀ i, i < sizeL (ks.take j) → ∃ u vs', Und l vs' (p + 1 + i) u ∧ u.deep ≤ f ∧ ((List.range j).flatMap (kidS f k s ks vs))[i]? = some (kR f u vs') := by
        intro j
        induction j with
        | zero => intro _ i hi; simp [sizeL] at hi
        | succ j ih =>
          intro hj i hi
          obtain ⟨t, ht⟩ : ∃ t, ks[j]? = some t := ⟨_, List.getElem?_eq_getElem (by omega)⟩
          have hlen : ((List.range j).flatMap (kidS f k s ks vs)).length = sizeL (ks.take j) := by
            have := ksR_len (f + 1) (.node k s n ks) vs hd
            clear ih hi
            have key2 : ∀ j, j ≤ ks.length → ((List.range j).flatMap (kidS f k s ks vs)).length = sizeL (ks.take j) := by
              intro j
              induction j with
              | zero => intro _; simp [sizeL]
              | succ j ih2 =>
                intro hj2
                obtain ⟨t2, ht2⟩ : ∃ t, ks[j]? = some t := ⟨_, List.getElem?_eq_getElem (by omega)⟩
                rw [List.range_succ, List.flatMap_append, List.length_append, ih2 (by omega), sizeL_take_succ ht2]
                simp only [List.flatMap_cons, List.flatMap_nil, List.append_nil, kidS, ht2]
                rw [ksR_len f t2 _ (Nat.le_trans (deep_at ht2) hd1)]
            exact key2 j (by omega)
          rw [List.range_succ, List.flatMap_append]
          rw [sizeL_take_succ ht] at hi
          by_cases hlt : i < sizeL (ks.take j)
          · obtain ⟨u, vs', h1, h2, h3⟩ := ih (by omega) i hlt
            exact ⟨u, vs', h1, h2, by rw [List.getElem?_append_left (by omega)]; exact h3⟩
          · have hq := places_get (p := p + 1) (show j < ks.length by omega)
            have hk := Und.kid h ht hq
            obtain ⟨u, vs', h1, h2, h3⟩ := und_at (Nat.le_trans (deep_at ht) hd1) hk (i - sizeL (ks.take j)) (by omega)
            refine ⟨u, vs', ?_, h2, ?_⟩
            · rw [show p + 1 + i = p + 1 + sizeL (ks.take j) + (i - sizeL (ks.take j)) by omega]; exact h1
            · rw [List.getElem?_append_right (by omega), hlen]
              simp only [List.flatMap_cons, List.flatMap_nil, List.append_nil, kidS, ht]
              exact h3
      obtain ⟨u, vs', h1, h2, h3⟩ := key ks.length (Nat.le_refl _) i (by rw [List.take_length]; omega)
      refine ⟨u, vs', by rw [show p + (i + 1) = p + 1 + i by omega]; exact h1, by omega, ?_⟩
      rw [h3, kR_up f u vs' h2]
end Go.Proofs.YtidkbodmiegbkaaGreatDoor
