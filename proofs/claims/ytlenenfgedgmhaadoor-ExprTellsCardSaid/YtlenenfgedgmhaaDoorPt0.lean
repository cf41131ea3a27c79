/- The parts of an expression, in plain words: the tree below a node. -/
import Derived.Test.YtlenenfgedgmhaaDoorMRt0
namespace Go.Proofs.YtlenenfgedgmhaaDoor
set_option linter.unusedSimpArgs false
set_option linter.unusedVariables false

mutual
/-- the tree below a node, by its place in the list -/
def subT : Tr → Nat → Option Tr
  | .node k s n ks, 0 => some (.node k s n ks)
  | .node _ _ _ ks, i + 1 => subL ks i
def subL : List Tr → Nat → Option Tr
  | [], _ => none
  | t :: ts, i => if i < t.size then subT t i else subL ts (i - t.size)
end
mutual
theorem sub_some : ∀ (t : Tr) (i : Nat), i < t.size → ∃ u, subT t i = some u ∧ i + u.size ≤ t.size ∧ u.deep ≤ t.deep ∧ (t.Good → u.Good) ∧ (∀ p, ((t.flat p).drop i).take u.size = u.flat (p + i)) ∧ ∀ j, j < u.size → subT u j = subT t (i + j)
  | .node k s n ks, 0, _ => ⟨_, rfl, by omega, Nat.le_refl _, id, fun p => by rw [List.drop_zero, ← trFlat_len (.node k s n ks) p, List.take_length]; rfl, fun j _ => by rw [Nat.zero_add]⟩
  | .node k s n ks, i + 1, h => by
    simp only [Tr.size] at h
    obtain ⟨u, h1, h2, h3, h4, h5, h6⟩ := subL_some ks i (by omega)
    refine ⟨u, h1, by simp only [Tr.size]; omega, by simp only [Tr.deep]; omega, fun hg => h4 hg.2, fun p => ?_, fun j hj => ?_⟩
    · simp only [Tr.flat, List.drop_succ_cons]
      rw [h5, Nat.add_assoc, Nat.add_comm 1 i]
    · rw [h6 j hj, show i + 1 + j = (i + j) + 1 by omega]
      rfl
theorem subL_some : ∀ (ts : List Tr) (i : Nat), i < sizeL ts → ∃ u, subL ts i = some u ∧ i + u.size ≤ sizeL ts ∧ u.deep ≤ deepL ts ∧ (GoodL ts → u.Good) ∧ (∀ p, ((flatL ts p).drop i).take u.size = u.flat (p + i)) ∧ ∀ j, j < u.size → subT u j = subL ts (i + j)
  | [], i, h => by simp [sizeL] at h
  | t :: ts, i, h => by
    simp only [sizeL] at h
    by_cases hi : i < t.size
    · obtain ⟨u, h1, h2, h3, h4, h5, h6⟩ := sub_some t i hi
      refine ⟨u, by simp only [subL]; rw [if_pos hi]; exact h1, by simp only [sizeL]; omega, by simp only [deepL]; omega, fun hg => h4 hg.1, fun p => ?_, fun j hj => ?_⟩
      · simp only [flatL]
        rw [List.drop_append_of_le_length (by rw [trFlat_len]; omega), List.take_append_of_le_length (by rw [List.length_drop, trFlat_len]; omega)]
        exact h5 p
      · rw [h6 j hj]
        simp only [subL]
        rw [if_pos (by omega)]
    · obtain ⟨u, h1, h2, h3, h4, h5, h6⟩ := subL_some ts (i - t.size) (by omega)
      refine ⟨u, by simp only [subL]; rw [if_neg hi]; exact h1, by simp only [sizeL]; omega, by simp only [deepL]; omega, fun hg => h4 hg.2, fun p => ?_, fun j hj => ?_⟩
      · simp only [flatL]
        rw [List.drop_append, List.drop_of_length_le (by rw [trFlat_len]; omega), List.nil_append, trFlat_len, h5]
        congr 1
        omega
      · rw [h6 j hj]
        simp only [subL]
        rw [if_neg (by omega), show i + j - t.size = i - t.size + j by omega]
end
theorem sub_zero (t : Tr) : subT t 0 = some t := by cases t; rfl
/-- a node's parts' places moved back -/
def backN (a : Nat) (d : EN) : EN := ⟨d.kind, d.text, d.num, d.kids.map (· - a)⟩
mutual
theorem flat_back : ∀ (t : Tr) (p a : Nat), (t.flat (p + a)).map (backN a) = t.flat p
  | .node k s n ks, p, a => by
    simp only [Tr.flat, List.map_cons]
    rw [show p + a + 1 = p + 1 + a by omega, flatL_back ks (p + 1) a]
    show EN.mk k s n ((placesL ks (p + 1 + a)).map (· - a)) :: _ = _
    rw [placesL_back ks (p + 1) a]
theorem flatL_back : ∀ (ts : List Tr) (p a : Nat), (flatL ts (p + a)).map (backN a) = flatL ts p
  | [], p, a => by simp [flatL]
  | t :: ts, p, a => by
    simp only [flatL, List.map_append]
    rw [flat_back t p a, show p + a + t.size = p + t.size + a by omega, flatL_back ts (p + t.size) a]
theorem placesL_back : ∀ (ts : List Tr) (p a : Nat), (placesL ts (p + a)).map (· - a) = placesL ts p
  | [], p, a => by simp [placesL]
  | t :: ts, p, a => by
    simp only [placesL, List.map_cons]
    rw [Nat.add_sub_cancel, show p + a + t.size = p + t.size + a by omega, placesL_back ts (p + t.size) a]
end
/-- the place behind the last part told of so far -/
def endK (ks : List Nat) (e : Nat) : Nat := ks.foldl (fun e k => max e (k + 1)) e
def endL (l : List EN) (e : Nat) : Nat := l.foldl (fun e d => endK d.kids e) e
theorem endK_snoc (ks : List Nat) (k e : Nat) : endK (ks ++ [k]) e = max (endK ks e) (k + 1) := by unfold endK; rw [List.foldl_append]; rfl
theorem endL_snoc (l : List EN) (d : EN) (e : Nat) : endL (l ++ [d]) e = endK d.kids (endL l e) := by unfold endL; rw [List.foldl_append]; rfl
theorem endK_ge : ∀ (ks : List Nat) (e : Nat), e ≤ endK ks e
  | [], e => Nat.le_refl _
  | k :: ks, e => Nat.le_trans (Nat.le_max_left e (k + 1)) (endK_ge ks (max e (k + 1)))
theorem endK_mem : ∀ (ks : List Nat) (e k : Nat), k ∈ ks → k < endK ks e
  | k0 :: ks, e, k, h => by
    rcases List.mem_cons.1 h with rfl | h
    · exact Nat.lt_of_lt_of_le (by omega) (endK_ge ks (max e (k + 1)))
    · exact endK_mem ks (max e (k0 + 1)) k h
theorem endK_le : ∀ (ks : List Nat) (e N : Nat), e ≤ N → (∀ k ∈ ks, k < N) → endK ks e ≤ N
  | [], e, N, h, _ => h
  | k :: ks, e, N, h, hk => endK_le ks (max e (k + 1)) N (by have := hk k (by simp); omega) (fun x hx => hk x (by simp [hx]))
theorem endL_ge : ∀ (l : List EN) (e : Nat), e ≤ endL l e
  | [], e => Nat.le_refl _
  | d :: l, e => Nat.le_trans (endK_ge d.kids e) (endL_ge l (endK d.kids e))
theorem endL_le : ∀ (l : List EN) (e N : Nat), e ≤ N → (∀ d ∈ l, ∀ k ∈ d.kids, k < N) → endL l e ≤ N
  | [], e, N, h, _ => h
  | d :: l, e, N, h, hk => endL_le l (endK d.kids e) N (endK_le d.kids e N h (hk d (by simp))) (fun x hx => hk x (by simp [hx]))
mutual
theorem end_more : ∀ (t : Tr) (p e j : Nat), p < e → j < t.size → p + j < endL ((t.flat p).take j) e
  | .node k s n ks, p, e, 0, h, _ => by rw [List.take_zero]; exact h
  | .node k s n ks, p, e, j + 1, h, hj => by
    simp only [Tr.size] at hj
    simp only [Tr.flat, List.take_succ_cons]
    have := endL_more ks (p + 1) (endK (placesL ks (p + 1)) e) j (fun x hx => endK_mem _ _ _ hx) (by omega)
    show p + (j + 1) < endL ((flatL ks (p + 1)).take j) (endK (placesL ks (p + 1)) e)
    omega
theorem endL_more : ∀ (ts : List Tr) (p e j : Nat), (∀ x ∈ placesL ts p, x < e) → j < sizeL ts → p + j < endL ((flatL ts p).take j) e
  | [], p, e, j, _, h => by simp [sizeL] at h
  | t :: ts, p, e, j, hp, hj => by
    simp only [sizeL] at hj
    simp only [placesL] at hp
    simp only [flatL]
    by_cases h : j < t.size
    · rw [List.take_append_of_le_length (by rw [trFlat_len]; omega)]
      exact end_more t p e j (hp p (by simp)) h
    · rw [List.take_append, List.take_of_length_le (by rw [trFlat_len]; omega), trFlat_len]
      have := endL_more ts (p + t.size) (endL (t.flat p) e) (j - t.size) (fun x hx => Nat.lt_of_lt_of_le (hp x (by simp [hx])) (endL_ge _ _)) (by omega)
      unfold endL at this ⊢
      rw [List.foldl_append]
      omega
end
theorem places_in : ∀ (ts : List Tr) (p x : Nat), x ∈ placesL ts p → p ≤ x ∧ x < p + sizeL ts
  | t :: ts, p, x, h => by
    simp only [placesL] at h
    simp only [sizeL]
    have := size_pos t
    rcases List.mem_cons.1 h with rfl | h
    · omega
    · have := places_in ts (p + t.size) x h; omega
mutual
theorem kids_in : ∀ (t : Tr) (p : Nat) (d : EN), d ∈ t.flat p → ∀ k ∈ d.kids, p < k ∧ k < p + t.size
  | .node kd s n ks, p, d, hd, k, hk => by
    simp only [Tr.flat] at hd
    simp only [Tr.size]
    rcases List.mem_cons.1 hd with rfl | hd
    · have := places_in ks (p + 1) k hk; omega
    · have := kidsL_in ks (p + 1) d hd k hk; omega
theorem kidsL_in : ∀ (ts : List Tr) (p : Nat) (d : EN), d ∈ flatL ts p → ∀ k ∈ d.kids, p ≤ k ∧ k < p + sizeL ts
  | [], p, d, hd, _, _ => by simp [flatL] at hd
  | t :: ts, p, d, hd, k, hk => by
    simp only [flatL, List.mem_append] at hd
    simp only [sizeL]
    rcases hd with hd | hd
    · have := kids_in t p d hd k hk; omega
    · have := kidsL_in ts (p + t.size) d hd k hk; omega
end
mutual
theorem kids_few : ∀ (t : Tr) (p : Nat) (d : EN), d ∈ t.flat p → d.kids.length ≤ t.size
  | .node kd s n ks, p, d, hd => by
    simp only [Tr.flat] at hd
    simp only [Tr.size]
    rcases List.mem_cons.1 hd with rfl | hd
    · have := len_le_size ks; simp only [places_len]; omega
    · have := kidsL_few ks (p + 1) d hd; omega
theorem kidsL_few : ∀ (ts : List Tr) (p : Nat) (d : EN), d ∈ flatL ts p → d.kids.length ≤ sizeL ts
  | [], p, d, hd => by simp [flatL] at hd
  | t :: ts, p, d, hd => by
    simp only [flatL, List.mem_append] at hd
    simp only [sizeL]
    rcases hd with hd | hd
    · have := kids_few t p d hd; omega
    · have := kidsL_few ts (p + t.size) d hd; omega
end
/-- the end, where all is gone through -/
theorem end_whole (t : Tr) (p : Nat) : endL (t.flat p) (p + 1) ≤ p + t.size := endL_le _ _ _ (by have := size_pos t; omega) (fun d hd k hk => (kids_in t p d hd k hk).2)
theorem end_part (t : Tr) (p j : Nat) : endL ((t.flat p).take j) (p + 1) ≤ p + t.size := endL_le _ _ _ (by have := size_pos t; omega) (fun d hd k hk => (kids_in t p d (List.mem_of_mem_take hd) k hk).2)
/-- the list of a tree has at a place the list of the tree below it -/
theorem sub_get {t u : Tr} {a : Nat} (h : ((t.flat 0).drop a).take u.size = u.flat (0 + a)) {j : Nat} {d : EN} (hd : (u.flat a)[j]? = some d) : (ndsT t 0)[a + j]? = some d.nd := by
  rw [Nat.zero_add] at h
  have hj : j < u.size := by rw [← trFlat_len u a]; exact (List.getElem?_eq_some_iff.1 hd).1
  rw [← h, List.getElem?_take_of_lt hj, List.getElem?_drop] at hd
  unfold ndsT
  rw [List.getElem?_map, hd]
  rfl
end Go.Proofs.YtlenenfgedgmhaaDoor
