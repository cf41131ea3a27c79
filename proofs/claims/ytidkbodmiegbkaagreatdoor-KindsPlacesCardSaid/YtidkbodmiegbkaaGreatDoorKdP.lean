/- Chapter 09 in plain words: the kind of a node of a tree, the first wrong node, all nodes' kinds; as the program reckons it and as the document says. -/
import Derived.Test.YtidkbodmiegbkaaGreatDoorLK
namespace Go.Proofs.YtidkbodmiegbkaaGreatDoor
set_option linter.unusedSimpArgs false
set_option linter.unusedVariables false

/-- of one kid's kind -/
def oneK (k : Nat) (a : Int) : Int :=
  if (k = 8 ∧ a = 4) ∨ (k = 17 ∧ a = 4) ∨ (k = 16 ∧ a = 1) then 2
  else if (k = 9 ∧ a = 4) ∨ (k = 13 ∧ a = 4) then 5
  else if (k = 10 ∧ a = 4) ∨ (k = 11 ∧ a = 4) ∨ (k = 15 ∧ a = 5) then 4
  else if (k = 12 ∧ a = 4) ∨ (k = 29 ∧ a = 3) then 3
  else if (k = 18 ∧ a = 4) ∨ (k = 14 ∧ a = 5) ∨ (k = 19 ∧ a = 2) then 1 else 0
/-- of two kids' kinds -/
def twoK (k : Nat) (a b : Int) : Int :=
  if k = 20 then (if a = b ∧ (a = 1 ∨ a = 2) then a else 0)
  else if k = 21 ∨ k = 22 then (if a = 1 ∧ b = 1 then 1 else 0)
  else if k = 23 ∨ k = 24 then (if a = b ∧ a ≠ 5 then 3 else 0)
  else if k = 25 ∨ k = 26 then (if a = b ∧ (a = 1 ∨ a = 2) then 3 else 0)
  else if k = 27 ∨ k = 28 then (if a = 3 ∧ b = 3 then 3 else 0)
  else if k = 31 ∨ k = 32 then (if a = 5 ∧ b = 3 then 3 else 0)
  else if k = 33 then (if a = 5 ∧ b = 3 then 5 else 0)
  else if k = 34 then (if a = 5 ∧ b = 1 then 1 else 0) else 0
/-- a node's kind, of its kids' (none of them 0) -/
def kindK (k : Nat) (bnd : Bool) (of : List Int) : Int :=
  if k = 1 then 1 else if k = 2 then 2 else if k = 3 ∨ k = 4 then 3 else if k = 5 ∨ k = 6 then 4
  else if k = 7 then (if bnd = true then 4 else 0)
  else if k = 30 then (if of.getD 0 0 = 3 ∧ of.getD 1 0 = of.getD 2 0 then of.getD 1 0 else 0)
  else if of.length = 1 then oneK k (of.getD 0 0) else twoK k (of.getD 0 0) (of.getD 1 0)
/-- what one with fixed kids takes and makes -/
def takesL : List (Int × Int × Int) := [(0, 0, 0), (0, 0, 1), (0, 0, 2), (0, 0, 3), (0, 0, 3), (0, 0, 4), (0, 0, 4), (0, 0, 0), (4, 0, 2), (4, 0, 5), (4, 0, 4), (4, 0, 4), (4, 0, 3), (4, 0, 5), (5, 0, 1), (5, 0, 4), (1, 0, 2), (4, 0, 2), (4, 0, 1), (2, 0, 1), (0, 0, 0), (1, 1, 1), (1, 1, 1), (0, 0, 0), (0, 0, 0), (0, 0, 0), (0, 0, 0), (3, 3, 3), (3, 3, 3), (3, 0, 3), (0, 0, 0), (5, 3, 3), (5, 3, 3), (5, 3, 5), (5, 1, 1)]
/-- as the program reckons it -/
def kindP (k : Nat) (bnd : Bool) (a b c : Int) : Int :=
  if k = 7 then (if bnd = true then 4 else 0)
  else if k = 20 ∨ k = 25 ∨ k = 26 then (if a = b ∧ (a = 1 ∨ a = 2) then (if k = 20 then a else 3) else 0)
  else if k = 23 ∨ k = 24 then (if a = b ∧ a ≠ 5 then 3 else 0)
  else if k = 30 then (if a = 3 ∧ b = c then b else 0)
  else if a = (takesL.getD k (0, 0, 0)).1 ∧ b = (takesL.getD k (0, 0, 0)).2.1 then (takesL.getD k (0, 0, 0)).2.2 else 0
theorem five {a : Int} (h1 : 1 ≤ a) (h2 : a ≤ 5) : a = 1 ∨ a = 2 ∨ a = 3 ∨ a = 4 ∨ a = 5 := by omega
theorem kindP_0 {k : Nat} {bnd : Bool} (h1 : 1 ≤ k) (h2 : k ≤ 7) : kindP k bnd 0 0 0 = kindK k bnd [] := by
  rcases (by omega : k = 1 ∨ k = 2 ∨ k = 3 ∨ k = 4 ∨ k = 5 ∨ k = 6 ∨ k = 7) with rfl | rfl | rfl | rfl | rfl | rfl | rfl <;> cases bnd <;> decide
theorem kindP_1 {k : Nat} {bnd : Bool} {a : Int} (h : (8 ≤ k ∧ k ≤ 19) ∨ k = 29) (h1 : 1 ≤ a) (h2 : a ≤ 5) : kindP k bnd a 0 0 = kindK k bnd [a] := by
  have key : ∀ k ∈ [8, 9, 10, 11, 12, 13, 14, 15, 16, 17, 18, 19, 29], ∀ a ∈ [(1 : Int), 2, 3, 4, 5], ∀ bnd : Bool, kindP k bnd a 0 0 = kindK k bnd [a] := by decide +kernel
  refine key k ?_ a ?_ bnd
  · have : k = 8 ∨ k = 9 ∨ k = 10 ∨ k = 11 ∨ k = 12 ∨ k = 13 ∨ k = 14 ∨ k = 15 ∨ k = 16 ∨ k = 17 ∨ k = 18 ∨ k = 19 ∨ k = 29 := by omega
    simpa using this
  · simpa using five h1 h2
theorem kindP_2 {k : Nat} {bnd : Bool} {a b : Int} (h : (20 ≤ k ∧ k ≤ 28) ∨ (31 ≤ k ∧ k ≤ 34)) (h1 : 1 ≤ a) (h2 : a ≤ 5) (h3 : 1 ≤ b) (h4 : b ≤ 5) : kindP k bnd a b 0 = kindK k bnd [a, b] := by
  have key : ∀ k ∈ [20, 21, 22, 23, 24, 25, 26, 27, 28, 31, 32, 33, 34], ∀ a ∈ [(1 : Int), 2, 3, 4, 5], ∀ b ∈ [(1 : Int), 2, 3, 4, 5], ∀ bnd : Bool, kindP k bnd a b 0 = kindK k bnd [a, b] := by decide +kernel
  refine key k ?_ a ?_ b ?_ bnd
  · have : k = 20 ∨ k = 21 ∨ k = 22 ∨ k = 23 ∨ k = 24 ∨ k = 25 ∨ k = 26 ∨ k = 27 ∨ k = 28 ∨ k = 31 ∨ k = 32 ∨ k = 33 ∨ k = 34 := by omega
    simpa using this
  · simpa using five h1 h2
  · simpa using five h3 h4
theorem kindP_3 {bnd : Bool} {a b c : Int} : kindP 30 bnd a b c = kindK 30 bnd [a, b, c] := rfl
theorem kindK_rng {k : Nat} {bnd : Bool} {of : List Int} (h : ∀ x ∈ of, 0 ≤ x ∧ x ≤ 5) : 0 ≤ kindK k bnd of ∧ kindK k bnd of ≤ 5 := by
  have g : ∀ i, 0 ≤ of.getD i 0 ∧ of.getD i 0 ≤ 5 := fun i => by
    rw [List.getD_eq_getElem?_getD]
    rcases hi : of[i]? with _ | x
    · simp
    · exact h x (List.mem_iff_getElem?.2 ⟨i, hi⟩)
  have g0 := g 0
  have g1 := g 1
  unfold kindK oneK twoK
  repeat' split
  all_goals omega
/-- the names that are bound in a node's i-th part -/
def vsK (k : Nat) (s : List Nat) (vs : List (List Nat)) (i : Nat) : List (List Nat) := if i = 1 ∧ 31 ≤ k ∧ k ≤ 34 then vs ++ [s] else vs
/-- the kind of a tree, under these names; 0: it is wrong, or a part of it -/
def kR : Nat → Tr → List (List Nat) → Int
  | 0, _, _ => 0
  | f + 1, .node k s n ks, vs =>
    let of := (List.range ks.length).map fun i => match ks[i]? with | some t => kR f t (vsK k s vs i) | none => 0
    if of.any (fun x => decide (x = 0)) = true then 0 else kindK k (decide (s ∈ vs)) of
def kidK (f k : Nat) (s : List Nat) (ks : List Tr) (vs : List (List Nat)) (i : Nat) : Int := match ks[i]? with | some t => kR f t (vsK k s vs i) | none => 0
def ofK (f k : Nat) (s : List Nat) (ks : List Tr) (vs : List (List Nat)) (j : Nat) : List Int := (List.range j).map (kidK f k s ks vs)
theorem kR_succ (f k : Nat) (s : List Nat) (n : Int) (ks : List Tr) (vs : List (List Nat)) : kR (f + 1) (.node k s n ks) vs = if (ofK f k s ks vs ks.length).any (fun x => decide (x = 0)) = true then 0 else kindK k (decide (s ∈ vs)) (ofK f k s ks vs ks.length) := rfl
theorem ofK_succ (f k : Nat) (s : List Nat) (ks : List Tr) (vs : List (List Nat)) (j : Nat) : ofK f k s ks vs (j + 1) = ofK f k s ks vs j ++ [kidK f k s ks vs j] := by unfold ofK; rw [List.range_succ, List.map_append]; rfl
theorem ofK_len (f k : Nat) (s : List Nat) (ks : List Tr) (vs : List (List Nat)) (j : Nat) : (ofK f k s ks vs j).length = j := by simp [ofK]
theorem kR_rng : ∀ (f : Nat) (t : Tr) (vs : List (List Nat)), 0 ≤ kR f t vs ∧ kR f t vs ≤ 5
  | 0, _, _ => by simp [kR]
  | f + 1, .node k s n ks, vs => by
    rw [kR_succ]
    split
    · omega
    · refine kindK_rng fun x hx => ?_
      obtain ⟨i, _, rfl⟩ := List.mem_map.1 hx
      unfold kidK
      split
      · exact kR_rng f _ _
      · omega
/-- the first wrong node at or below one, or -1 -/
def wR : Nat → Tr → List (List Nat) → Nat → Int
  | 0, _, _, _ => -1
  | f + 1, .node k s n ks, vs, p =>
    let w := (List.range ks.length).foldl (fun w i => if w < 0 then (match ks[i]?, (placesL ks (p + 1))[i]? with | some t, some q => wR f t (vsK k s vs i) q | _, _ => -1) else w) (-1)
    if 0 ≤ w then w else if kR (f + 1) (.node k s n ks) vs = 0 then (p : Int) else -1
def kidW (f k : Nat) (s : List Nat) (ks : List Tr) (vs : List (List Nat)) (p i : Nat) : Int := match ks[i]?, (placesL ks (p + 1))[i]? with | some t, some q => wR f t (vsK k s vs i) q | _, _ => -1
def fstW (f k : Nat) (s : List Nat) (ks : List Tr) (vs : List (List Nat)) (p : Nat) : Nat → Int
  | 0 => -1
  | j + 1 => if fstW f k s ks vs p j < 0 then kidW f k s ks vs p j else fstW f k s ks vs p j
theorem fstW_fold (f k : Nat) (s : List Nat) (ks : List Tr) (vs : List (List Nat)) (p : Nat) : ∀ j, (List.range j).foldl (fun w i => if w < 0 then kidW f k s ks vs p i else w) (-1) = fstW f k s ks vs p j
  | 0 => rfl
  | j + 1 => by rw [List.range_succ, List.foldl_append, fstW_fold f k s ks vs p j]; rfl
theorem wR_succ (f k : Nat) (s : List Nat) (n : Int) (ks : List Tr) (vs : List (List Nat)) (p : Nat) : wR (f + 1) (.node k s n ks) vs p = if 0 ≤ fstW f k s ks vs p ks.length then fstW f k s ks vs p ks.length else if kR (f + 1) (.node k s n ks) vs = 0 then (p : Int) else -1 := by
  rw [← fstW_fold]
  rfl
/-- all nodes' kinds, in their order -/
def ksR : Nat → Tr → List (List Nat) → List Int
  | 0, _, _ => []
  | f + 1, .node k s n ks, vs => kR (f + 1) (.node k s n ks) vs :: (List.range ks.length).flatMap fun i => match ks[i]? with | some t => ksR f t (vsK k s vs i) | none => []
def kidS (f k : Nat) (s : List Nat) (ks : List Tr) (vs : List (List Nat)) (i : Nat) : List Int := match ks[i]? with | some t => ksR f t (vsK k s vs i) | none => []
theorem ksR_succ (f k : Nat) (s : List Nat) (n : Int) (ks : List Tr) (vs : List (List Nat)) : ksR (f + 1) (.node k s n ks) vs = kR (f + 1) (.node k s n ks) vs :: (List.range ks.length).flatMap (kidS f k s ks vs) := rfl
theorem sizeL_take_succ {ts : List Tr} {j : Nat} {t : Tr} (h : ts[j]? = some t) : sizeL (ts.take (j + 1)) = sizeL (ts.take j) + t.size := by
  rw [List.take_add_one, h]
  induction ts.take j with
  | nil => simp [sizeL]
  | cons u us ih => simp only [Option.toList, List.cons_append, sizeL] at ih ⊢; omega
theorem ksR_len : ∀ (f : Nat) (t : Tr) (vs : List (List Nat)), t.deep ≤ f → (ksR f t vs).length = t.size
  | 0, .node k s n ks, vs, h => by simp only [Tr.deep] at h; omega
  | f + 1, .node k s n ks, vs, h => by
    have hd := deep_one h
    rw [ksR_succ, List.length_cons]
    have key : ∀ j, j ≤ ks.length → ((List.range j).flatMap (kidS f k s ks vs)).length = sizeL (ks.take j) := by
      intro j
      induction j with
      | zero => intro _; simp [sizeL]
      | succ j ih =>
        intro hj
        obtain ⟨t, ht⟩ : ∃ t, ks[j]? = some t := ⟨_, List.getElem?_eq_getElem (by omega)⟩
        rw [List.range_succ, List.flatMap_append, List.length_append, ih (by omega), sizeL_take_succ ht]
        simp only [List.flatMap_cons, List.flatMap_nil, List.append_nil, kidS, ht]
        rw [ksR_len f t _ (Nat.le_trans (deep_at ht) hd)]
    rw [key _ (Nat.le_refl _), List.take_length]
    simp only [Tr.size]
    omega
theorem places_get : ∀ {ts : List Tr} {p j : Nat}, j < ts.length → (placesL ts p)[j]? = some (p + sizeL (ts.take j))
  | [], p, j, h => by simp at h
  | t :: ts, p, 0, h => by simp [placesL, sizeL]
  | t :: ts, p, j + 1, h => by
    simp only [placesL, List.getElem?_cons_succ, List.take_succ_cons, sizeL]
    rw [places_get (by simpa using h)]
    congr 1
    omega
theorem sizeL_take {ts : List Tr} {j : Nat} {t : Tr} (h : ts[j]? = some t) : sizeL (ts.take j) + t.size ≤ sizeL ts := by
  induction ts generalizing j with
  | nil => cases h
  | cons u ts ih =>
    cases j with
    | zero => simp at h; subst h; simp [sizeL]
    | succ j => simp only [List.getElem?_cons_succ] at h; have := ih h; simp only [List.take_succ_cons, sizeL]; omega
theorem wR_in : ∀ (f : Nat) (t : Tr) (vs : List (List Nat)) (p : Nat), wR f t vs p = -1 ∨ ((p : Int) ≤ wR f t vs p ∧ wR f t vs p < ((p + t.size : Nat) : Int))
  | 0, t, vs, p => .inl rfl
  | f + 1, .node k s n ks, vs, p => by
    rw [wR_succ]
    have key : ∀ j, fstW f k s ks vs p j = -1 ∨ ((p : Int) ≤ fstW f k s ks vs p j ∧ fstW f k s ks vs p j < ((p + (1 + sizeL ks) : Nat) : Int)) := by
      intro j
      induction j with
      | zero => exact .inl rfl
      | succ j ih =>
        simp only [fstW]
        split
        · unfold kidW
          split
          · next t q ht hq =>
            have hin := places_in ks _ q (List.mem_iff_getElem?.2 ⟨j, hq⟩)
            have hj : j < ks.length := (List.getElem?_eq_some_iff.1 ht).1
            rw [places_get hj] at hq
            injection hq with hq
            have h1 := sizeL_take ht
            rcases wR_in f t (vsK k s vs j) q with h | h
            · exact .inl h
            · right; omega
          · exact .inl rfl
        · exact ih
    simp only [Tr.size]
    split
    · rcases key ks.length with h | h
      · omega
      · exact .inr h
    · split
      · right; omega
      · exact .inl rfl
theorem fstW_neg {f k : Nat} {s : List Nat} {ks : List Tr} {vs : List (List Nat)} {p j : Nat} (h : fstW f k s ks vs p j < 0) : ∀ i, i < j → kidW f k s ks vs p i < 0 := by
  induction j with
  | zero => intro i hi; omega
  | succ j ih =>
    simp only [fstW] at h
    split at h
    · next h1 =>
      intro i hi
      by_cases e : i = j
      · subst e; exact h
      · exact ih h1 i (by omega)
    · next h1 => exact absurd h h1
/-- where no node is wrong there is a kind -/
theorem wR_kind : ∀ {f : Nat} {t : Tr} {vs : List (List Nat)} {p : Nat}, t.deep ≤ f → wR f t vs p < 0 → kR f t vs ≠ 0
  | 0, .node k s n ks, vs, p, hd, h => by simp only [Tr.deep] at hd; omega
  | f + 1, .node k s n ks, vs, p, hd, h => by
    rw [wR_succ] at h
    split at h
    · omega
    · split at h
      · omega
      · assumption
/-- a node's parts have kinds, where none of them is wrong -/
theorem kids_kind {f k : Nat} {s : List Nat} {n : Int} {ks : List Tr} {vs : List (List Nat)} {p : Nat} (hd : (Tr.node k s n ks).deep ≤ f + 1) (h : fstW f k s ks vs p ks.length < 0) : ∀ i, i < ks.length → 1 ≤ kidK f k s ks vs i ∧ kidK f k s ks vs i ≤ 5 := by
  intro i hi
  have h1 := fstW_neg h i hi
  obtain ⟨t, ht⟩ : ∃ t, ks[i]? = some t := ⟨_, List.getElem?_eq_getElem hi⟩
  have hq := places_get (p := p + 1) hi
  unfold kidW at h1
  rw [ht, hq] at h1
  have h2 := wR_kind (Nat.le_trans (deep_at ht) (deep_one hd)) h1
  have h3 := kR_rng f t (vsK k s vs i)
  unfold kidK
  rw [ht]
  simp only
  omega
/-- the program's reckoning comes to the document's kind -/
theorem kR_prog {f k : Nat} {s : List Nat} {n : Int} {ks : List Tr} {vs : List (List Nat)} {p : Nat} (hg : Shape k s n ks) (hd : (Tr.node k s n ks).deep ≤ f + 1) (h : fstW f k s ks vs p ks.length < 0) : kR (f + 1) (.node k s n ks) vs = kindP k (decide (s ∈ vs)) (kidK f k s ks vs 0) (kidK f k s ks vs 1) (kidK f k s ks vs 2) := by
  have hk := kids_kind hd h
  have hany : (ofK f k s ks vs ks.length).any (fun x => decide (x = 0)) = false := by
    rw [List.any_eq_false]
    intro x hx
    obtain ⟨i, hi, rfl⟩ := List.mem_map.1 hx
    have := hk i (List.mem_range.1 hi)
    simp
    omega
  have z : ∀ i, ks.length ≤ i → kidK f k s ks vs i = 0 := fun i hi => by unfold kidK; rw [List.getElem?_eq_none hi]
  rw [kR_succ, hany, if_neg (by decide)]
  rcases shape_cases hg with ⟨rfl, h1, h2⟩ | ⟨a, rfl, h1⟩ | ⟨a, b, rfl, h1⟩ | ⟨a, b, c, rfl, rfl⟩
  · rw [z 0 (by simp), z 1 (by simp), z 2 (by simp), kindP_0 h1 h2]; rfl
  · have e0 := hk 0 (by simp)
    rw [z 1 (by simp), z 2 (by simp), kindP_1 h1 e0.1 e0.2]; rfl
  · have e0 := hk 0 (by simp)
    have e1 := hk 1 (by simp)
    rw [z 2 (by simp), kindP_2 h1 e0.1 e0.2 e1.1 e1.2]; rfl
  · rw [kindP_3]; rfl
end Go.Proofs.YtidkbodmiegbkaaGreatDoor
