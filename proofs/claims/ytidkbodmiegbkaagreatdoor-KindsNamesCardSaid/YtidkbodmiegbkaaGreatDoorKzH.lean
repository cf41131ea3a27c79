/- Chapter 09, plain words, outright: another name in the place of one; where a variable is the first wrong one, it stands free. -/
import Derived.Test.YtidkbodmiegbkaaGreatDoorKzB
import Derived.Test.YtidkbodmiegbkaaGreatDoorNRn0
namespace Go.Proofs.YtidkbodmiegbkaaGreatDoor
set_option linter.unusedSimpArgs false
set_option linter.unusedVariables false
open Go.RowKit

def isVB (k : Nat) : Bool := decide (k = 7) || (decide (31 ≤ k) && decide (k ≤ 34))
def rnN (a b s : List Nat) : List Nat := if s = a then b else s
mutual
/-- another name in the place of one -/
def rnT (a b : List Nat) : Tr → Tr
  | .node k s n ks => .node k (if isVB k = true then rnN a b s else s) n (rnL a b ks)
def rnL (a b : List Nat) : List Tr → List Tr
  | [] => []
  | t :: ts => rnT a b t :: rnL a b ts
end
mutual
/-- a name that no variable of a tree has -/
def noB (b : List Nat) : Tr → Prop
  | .node k s _ ks => (isVB k = true → s ≠ b) ∧ noBL b ks
def noBL (b : List Nat) : List Tr → Prop
  | [] => True
  | t :: ts => noB b t ∧ noBL b ts
end
theorem rnL_get (a b : List Nat) : ∀ (ts : List Tr) (i : Nat), (rnL a b ts)[i]? = (ts[i]?).map (rnT a b)
  | [], i => by simp [rnL]
  | t :: ts, 0 => by simp [rnL]
  | t :: ts, i + 1 => by simp only [rnL, List.getElem?_cons_succ]; exact rnL_get a b ts i
theorem rnL_len (a b : List Nat) : ∀ ts : List Tr, (rnL a b ts).length = ts.length
  | [] => rfl
  | t :: ts => by simp only [rnL, List.length_cons, rnL_len a b ts]
mutual
theorem rn_size (a b : List Nat) : ∀ t : Tr, (rnT a b t).size = t.size ∧ (rnT a b t).deep = t.deep
  | .node k s n ks => by
    have := rnL_size a b ks
    simp only [rnT, Tr.size, Tr.deep, this]
    exact ⟨trivial, trivial⟩
theorem rnL_size (a b : List Nat) : ∀ ts : List Tr, sizeL (rnL a b ts) = sizeL ts ∧ deepL (rnL a b ts) = deepL ts
  | [] => ⟨rfl, rfl⟩
  | t :: ts => by
    have h1 := rn_size a b t
    have h2 := rnL_size a b ts
    simp only [rnL, sizeL, deepL, h1, h2]
    exact ⟨trivial, trivial⟩
end
theorem rnL_places (a b : List Nat) : ∀ (ts : List Tr) (p : Nat), placesL (rnL a b ts) p = placesL ts p
  | [], p => rfl
  | t :: ts, p => by simp only [rnL, placesL]; rw [(rn_size a b t).1, rnL_places a b ts]
/-- a node with the other name -/
def rnD (a b : List Nat) (d : ND) : ND := if (d.kind = 7 ∨ (31 ≤ d.kind ∧ d.kind ≤ 34)) ∧ d.text = a then ⟨d.kind, b, d.num, d.kids⟩ else d
theorem isVB_iff {k : Nat} : isVB k = true ↔ ((k : Int) = 7 ∨ (31 ≤ (k : Int) ∧ (k : Int) ≤ 34)) := by
  unfold isVB
  simp
  omega
mutual
theorem nds_rn (a b : List Nat) : ∀ (t : Tr) (p : Nat), (ndsT t p).map (rnD a b) = ndsT (rnT a b t) p
  | .node k s n ks, p => by
    simp only [ndsT, rnT, Tr.flat, List.map_cons]
    rw [rnL_places]
    have h := ndsL_rn a b ks (p + 1)
    unfold ndsL at h
    rw [← h]
    congr 1
    unfold rnD EN.nd
    simp only
    by_cases hv : isVB k = true
    · rw [if_pos hv]
      unfold rnN
      by_cases hs : s = a
      · rw [if_pos ⟨isVB_iff.1 hv, hs⟩, if_pos hs]
      · rw [if_neg (fun h => hs h.2), if_neg hs]
    · rw [if_neg hv, if_neg (fun h => hv (isVB_iff.2 h.1))]
theorem ndsL_rn (a b : List Nat) : ∀ (ts : List Tr) (p : Nat), (ndsL ts p).map (rnD a b) = ndsL (rnL a b ts) p
  | [], p => by simp [ndsL, rnL, flatL]
  | t :: ts, p => by
    have h1 := nds_rn a b t p
    have h2 := ndsL_rn a b ts (p + t.size)
    unfold ndsT at h1
    unfold ndsL at h2
    simp only [ndsL, rnL, flatL, List.map_append]
    rw [h1, h2, (rn_size a b t).1]
end
mutual
theorem noB_of (b : List Nat) : ∀ (t : Tr) (p : Nat), (∀ d ∈ ndsT t p, (d.kind = 7 ∨ (31 ≤ d.kind ∧ d.kind ≤ 34)) → d.text ≠ b) → noB b t
  | .node k s n ks, p, h => by
    refine ⟨fun hv => ?_, noBL_of b ks (p + 1) (fun d hd => h d ?_)⟩
    · exact h ⟨(k : Int), s, n, (placesL ks (p + 1)).map fun n : Nat => (n : Int)⟩ (by simp [ndsT, Tr.flat, EN.nd]) (isVB_iff.1 hv)
    · simp only [ndsT, Tr.flat, List.map_cons]
      exact List.mem_cons.2 (.inr hd)
theorem noBL_of (b : List Nat) : ∀ (ts : List Tr) (p : Nat), (∀ d ∈ ndsL ts p, (d.kind = 7 ∨ (31 ≤ d.kind ∧ d.kind ≤ 34)) → d.text ≠ b) → noBL b ts
  | [], p, h => trivial
  | t :: ts, p, h => by
    refine ⟨noB_of b t p (fun d hd => h d ?_), noBL_of b ts (p + t.size) (fun d hd => h d ?_)⟩
    · simp only [ndsL, flatL, List.map_append]; exact List.mem_append.2 (.inl hd)
    · simp only [ndsL, flatL, List.map_append]; exact List.mem_append.2 (.inr hd)
end
theorem noBL_at {b : List Nat} : ∀ {ts : List Tr} {i : Nat} {t : Tr}, noBL b ts → ts[i]? = some t → noB b t
  | [], i, t, _, h => by simp at h
  | u :: ts, 0, t, hn, h => by simp at h; subst h; exact hn.1
  | u :: ts, i + 1, t, hn, h => noBL_at hn.2 (by simpa using h)
mutual
theorem good_list : ∀ (t : Tr) (p : Nat), (∀ d ∈ ndsT t p, mayE d = true ∧ NdOk d) → t.Good
  | .node k s n ks, p, h => by
    have h0 := h ⟨(k : Int), s, n, (placesL ks (p + 1)).map fun n : Nat => (n : Int)⟩ (by simp [ndsT, Tr.flat, EN.nd])
    refine ⟨⟨shape_of (by simp [places_len]) h0.1, h0.2.1, h0.2.2.2.1, h0.2.2.2.2⟩, goodL_list ks (p + 1) (fun d hd => h d ?_)⟩
    simp only [ndsT, Tr.flat, List.map_cons]
    exact List.mem_cons.2 (.inr hd)
theorem goodL_list : ∀ (ts : List Tr) (p : Nat), (∀ d ∈ ndsL ts p, mayE d = true ∧ NdOk d) → GoodL ts
  | [], p, h => trivial
  | t :: ts, p, h => by
    refine ⟨good_list t p (fun d hd => h d ?_), goodL_list ts (p + t.size) (fun d hd => h d ?_)⟩
    · simp only [ndsL, flatL, List.map_append]; exact List.mem_append.2 (.inl hd)
    · simp only [ndsL, flatL, List.map_append]; exact List.mem_append.2 (.inr hd)
end
/-- what P8.2 says of the list with the other name -/
theorem right_rn {a b : List Nat} {t : Tr} (hg : t.Good) (hok : ∀ d ∈ ndsT t 0, NdOk d) (hb : Bytes b ∧ b.length ≤ 140737488355328) (hd : t.deep ≤ 32) (hsz : t.size ≤ 256) : (rightE (ndsT (rnT a b t) 0) = 0 ∧ (rnT a b t).Good) ∨ rightE (ndsT (rnT a b t) 0) = 80 := by
  have hok2 : ∀ d ∈ ndsT (rnT a b t) 0, NdOk d := by
    intro d hd
    rw [← nds_rn] at hd
    obtain ⟨d0, h0, rfl⟩ := List.mem_map.1 hd
    have h1 := hok d0 h0
    unfold rnD
    split
    · exact ⟨hb.1, hb.2, h1.2.2⟩
    · exact h1
  have hs := rn_size a b t
  by_cases hall : ∀ d ∈ ndsT (rnT a b t) 0, mayE d = true
  · have hg2 := good_list (rnT a b t) 0 (fun d hd => ⟨hall d hd, hok2 d hd⟩)
    refine .inl ⟨?_, hg2⟩
    rw [right_tr hg2, if_neg (by omega)]
  · right
    obtain ⟨d, hd1, hd2⟩ : ∃ d, d ∈ ndsT (rnT a b t) 0 ∧ mayE d ≠ true := by
      rcases Classical.em (∃ d, d ∈ ndsT (rnT a b t) 0 ∧ mayE d ≠ true) with h | h
      · exact h
      · exact absurd (fun d hd => Classical.byContradiction fun h2 => h ⟨d, hd, h2⟩) hall
    obtain ⟨i, hi⟩ := List.mem_iff_getElem?.1 hd1
    have hl := (List.getElem?_eq_some_iff.1 hi).1
    refine right_no hok2 hl ?_ (by rw [nds_len]; omega)
    obtain ⟨f, hf⟩ : ∃ f, (ndsT (rnT a b t) 0).length = f + 1 := ⟨(ndsT (rnT a b t) 0).length - 1, by omega⟩
    rw [hf]
    simp only [metN, hi]
    rw [if_neg hd2]
theorem rnN_inj {a b x y : List Nat} (hx : x ≠ b) (hy : y ≠ b) : rnN a b x = rnN a b y ↔ x = y := by
  constructor
  · unfold rnN
    intro h
    split at h
    · split at h
      · simp [*]
      · exact absurd h.symm hy
    · split at h
      · exact absurd h hx
      · exact h
  · rintro rfl; rfl
theorem rn_mem {a b s : List Nat} {vs : List (List Nat)} (hs : s ≠ b) (hv : ∀ v ∈ vs, v ≠ b) : rnN a b s ∈ vs.map (rnN a b) ↔ s ∈ vs := by
  constructor
  · intro h
    obtain ⟨v, h1, h2⟩ := List.mem_map.1 h
    rw [← (rnN_inj (hv v h1) hs).1 h2]
    exact h1
  · intro h; exact List.mem_map.2 ⟨s, h, rfl⟩
theorem vsK_rn {a b : List Nat} {k : Nat} {s : List Nat} {vs : List (List Nat)} {i : Nat} : vsK k (if isVB k = true then rnN a b s else s) (vs.map (rnN a b)) i = (vsK k s vs i).map (rnN a b) := by
  unfold vsK
  by_cases h : i = 1 ∧ 31 ≤ k ∧ k ≤ 34
  · rw [if_pos h, if_pos h, if_pos (isVB_iff.2 (by omega)), List.map_append]
    rfl
  · rw [if_neg h, if_neg h]
theorem vsK_no {b : List Nat} {k : Nat} {s : List Nat} {vs : List (List Nat)} {i : Nat} (hs : isVB k = true → s ≠ b) (hv : ∀ v ∈ vs, v ≠ b) : ∀ v ∈ vsK k s vs i, v ≠ b := by
  unfold vsK
  split
  · next h =>
    intro v hv2
    rcases List.mem_append.1 hv2 with h2 | h2
    · exact hv v h2
    · simp at h2; subst h2; exact hs (isVB_iff.2 (by omega))
  · exact hv
theorem kR_rn {a b : List Nat} : ∀ {f : Nat} {t : Tr} {vs : List (List Nat)}, noB b t → (∀ v ∈ vs, v ≠ b) → kR f (rnT a b t) (vs.map (rnN a b)) = kR f t vs
  | 0, t, vs, _, _ => by cases t; rfl
  | f + 1, .node k s n ks, vs, hn, hv => by
    simp only [rnT]
    have e : ofK f k (if isVB k = true then rnN a b s else s) (rnL a b ks) (vs.map (rnN a b)) (rnL a b ks).length = ofK f k s ks vs ks.length := by
      unfold ofK
      rw [rnL_len]
      refine List.map_congr_left fun i hi => ?_
      unfold kidK
      rw [rnL_get]
      rcases ht : ks[i]? with _ | t
      · rfl
      · simp only [Option.map_some]
        rw [vsK_rn]
        exact kR_rn (noBL_at hn.2 ht) (vsK_no hn.1 hv)
    rw [kR_succ, kR_succ, e]
    split
    · rfl
    · have hb : k = 7 → decide ((if isVB k = true then rnN a b s else s) ∈ vs.map (rnN a b)) = decide (s ∈ vs) := fun h7 => by
        have hvb : isVB k = true := isVB_iff.2 (by omega)
        rw [if_pos hvb]
        have := rn_mem (a := a) (hn.1 hvb) hv
        rw [Bool.eq_iff_iff]
        simp only [decide_eq_true_eq]
        exact this
      by_cases h7 : k = 7
      · rw [hb h7]
      · unfold kindK
        simp only [h7, if_false]
theorem wR_rn {a b : List Nat} : ∀ {f : Nat} {t : Tr} {vs : List (List Nat)} {p : Nat}, noB b t → (∀ v ∈ vs, v ≠ b) → wR f (rnT a b t) (vs.map (rnN a b)) p = wR f t vs p
  | 0, t, vs, p, _, _ => by cases t; rfl
  | f + 1, .node k s n ks, vs, p, hn, hv => by
    have hk := kR_rn (a := a) (f := f + 1) hn hv
    simp only [rnT] at hk ⊢
    have e : ∀ j, fstW f k (if isVB k = true then rnN a b s else s) (rnL a b ks) (vs.map (rnN a b)) p j = fstW f k s ks vs p j := by
      intro j
      induction j with
      | zero => rfl
      | succ j ih =>
        have e1 : kidW f k (if isVB k = true then rnN a b s else s) (rnL a b ks) (vs.map (rnN a b)) p j = kidW f k s ks vs p j := by
          unfold kidW
          rw [rnL_get, rnL_places]
          rcases ht : ks[j]? with _ | t
          · rfl
          · rcases hq : (placesL ks (p + 1))[j]? with _ | q
            · rfl
            · simp only [Option.map_some]
              rw [vsK_rn]
              exact wR_rn (noBL_at hn.2 ht) (vsK_no hn.1 hv)
        simp only [fstW]
        rw [ih, e1]
    rw [wR_succ, wR_succ, rnL_len, e, hk]
theorem ksR_rn {a b : List Nat} : ∀ {f : Nat} {t : Tr} {vs : List (List Nat)}, noB b t → (∀ v ∈ vs, v ≠ b) → ksR f (rnT a b t) (vs.map (rnN a b)) = ksR f t vs
  | 0, t, vs, _, _ => by cases t; rfl
  | f + 1, .node k s n ks, vs, hn, hv => by
    have hk := kR_rn (a := a) (f := f + 1) hn hv
    simp only [rnT] at hk ⊢
    rw [ksR_succ, ksR_succ, hk, rnL_len]
    congr 1
    have e : kidS f k (if isVB k = true then rnN a b s else s) (rnL a b ks) (vs.map (rnN a b)) = kidS f k s ks vs := by
      funext i
      unfold kidS
      rw [rnL_get]
      rcases ht : ks[i]? with _ | t
      · rfl
      · simp only [Option.map_some]
        rw [vsK_rn]
        exact ksR_rn (noBL_at hn.2 ht) (vsK_no hn.1 hv)
    rw [e]
/-- where the first wrong one is a variable, a name stands free -/
theorem var_free {l : List ND} : ∀ {f : Nat} {t : Tr} {vs : List (List Nat)} {p : Nat}, t.deep ≤ f → Und l vs p t → 0 ≤ wR f t vs p → (∃ d, l[(wR f t vs p).toNat]? = some d ∧ d.kind = 7) → ∃ x, some x ∈ frS f t vs
  | 0, .node k s n ks, vs, p, hd, hu, hw, h => by simp only [Tr.deep] at hd; omega
  | f + 1, .node k s n ks, vs, p, hd, hu, hw, h => by
    have hd1 := deep_one hd
    rw [wR_succ] at hw h
    by_cases hf : 0 ≤ fstW f k s ks vs p ks.length
    · rw [if_pos hf] at hw h
      have key : ∀ j, j ≤ ks.length → 0 ≤ fstW f k s ks vs p j → ∃ i, i < j ∧ kidW f k s ks vs p i = fstW f k s ks vs p j ∧ 0 ≤ kidW f k s ks vs p i := by
        intro j
        induction j with
        | zero => intro _ h; simp [fstW] at h
        | succ j ih =>
          intro hj h
          simp only [fstW] at h ⊢
          split at h
          · next h1 => rw [if_pos h1]; exact ⟨j, by omega, rfl, h⟩
          · next h1 =>
            rw [if_neg h1]
            obtain ⟨i, h2, h3, h4⟩ := ih (by omega) h
            exact ⟨i, by omega, h3, h4⟩
      obtain ⟨i, hi, h1, h2⟩ := key _ (Nat.le_refl _) hf
      rw [← h1] at h
      obtain ⟨t, ht⟩ : ∃ t, ks[i]? = some t := ⟨_, List.getElem?_eq_getElem hi⟩
      have hq := places_get (p := p + 1) hi
      have e : kidW f k s ks vs p i = wR f t (vsK k s vs i) (p + 1 + sizeL (ks.take i)) := by unfold kidW; rw [ht, hq]
      rw [e] at h h2
      obtain ⟨x, hx⟩ := var_free (Nat.le_trans (deep_at ht) hd1) (hu.kid ht hq) h2 h
      refine ⟨x, ?_⟩
      rw [frS_succ]
      refine List.mem_cons.2 (.inr (List.mem_flatMap.2 ⟨i, List.mem_range.2 hi, ?_⟩))
      unfold kidFS
      rw [ht]
      exact hx
    · rw [if_neg hf] at hw h
      split at h
      · next hk =>
        obtain ⟨d, h1, h2⟩ := h
        rw [Int.toNat_natCast, (stands_node hu.stands).1] at h1
        injection h1 with h1
        subst h1
        simp only at h2
        have h7 : k = 7 := by omega
        subst h7
        refine ⟨s, ?_⟩
        rw [frS_succ]
        refine List.mem_cons.2 (.inl ?_)
        simp only [flagT]
        rw [if_pos]
        refine ⟨trivial, fun hs => ?_⟩
        rw [kR_succ] at hk
        split at hk
        · next ha =>
          -- a variable has no parts: the tree is good, but that is not asked: a kid with no kind were wrong
          rw [List.any_eq_true] at ha
          obtain ⟨x, hx, hx0⟩ := ha
          obtain ⟨i, hi, rfl⟩ := List.mem_map.1 hx
          have := kids_kind (f := f) (k := 7) (s := s) (n := n) (ks := ks) (vs := vs) (p := p) hd (by omega) i (List.mem_range.1 hi)
          simp at hx0
          omega
        · simp [kindK, hs] at hk
      · next hk => rw [if_neg hk] at hw; omega
end Go.Proofs.YtidkbodmiegbkaaGreatDoor
