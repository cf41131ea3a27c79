/- - - - - - -/
import Derived.Test.YtpkggobhhieeoaaDoorKLScan
import Derived.Test.YtpkggobhhieeoaaDoorKM2
set_option maxRecDepth 100000
set_option maxHeartbeats 32000000
set_option linter.unusedSimpArgs false
set_option linter.unusedVariables false
namespace Go.Proofs.YtpkggobhhieeoaaDoor
inductive Tr where
  | node (kind : Nat) (text : List Nat) (num : Int) (kids : List Tr)
mutual
def Tr.size : Tr → Nat
  | .node _ _ _ ks => 1 + sizeL ks
def sizeL : List Tr → Nat
  | [] => 0
  | t :: ts => t.size + sizeL ts
end
mutual
def Tr.deep : Tr → Nat
  | .node _ _ _ ks => deepL ks + 1
def deepL : List Tr → Nat
  | [] => 0
  | t :: ts => max t.deep (deepL ts)
end
structure EN where
  kind : Nat
  text : List Nat
  num : Int
  kids : List Nat
  deriving DecidableEq
mutual
def Tr.flat : Tr → Nat → List EN
  | .node k s n ks, p => ⟨k, s, n, placesL ks (p + 1)⟩ :: flatL ks (p + 1)
def flatL : List Tr → Nat → List EN
  | [], _ => []
  | t :: ts, p => t.flat p ++ flatL ts (p + t.size)
def placesL : List Tr → Nat → List Nat
  | [], _ => []
  | t :: ts, p => p :: placesL ts (p + t.size)
end
mutual
theorem trFlat_len : ∀ (t : Tr) (p : Nat), (t.flat p).length = t.size
  | .node k s n ks, p => by simp only [Tr.flat, Tr.size, List.length_cons, trFlatL_len ks]; omega
theorem trFlatL_len : ∀ (l : List Tr) (p : Nat), (flatL l p).length = sizeL l
  | [], _ => rfl
  | t :: ts, p => by simp only [flatL, sizeL, List.length_append, trFlat_len t, trFlatL_len ts]
end
theorem size_pos (t : Tr) : 1 ≤ t.size := by cases t; simp only [Tr.size]; omega
inductive PR where
  | ok (t : Tr) (i : Nat)
  | no (i : Nat)
  | out
def orT : List Nat := [111, 114]
def andT : List Nat := [97, 110, 100]
def notT : List Nat := [110, 111, 116]
def openT : List Nat := [40]
def closeT : List Nat := [41]
def minusT : List Nat := [45]
def inT : List Nat := [105, 110]
def colonT : List Nat := [58]
def endT : List Nat := [101, 110, 100]
def thenT : List Nat := [116, 104, 101, 110]
def elseT : List Nat := [101, 108, 115, 101]
def signsL : List (List Nat × Nat × Nat) := [(orT, 28, 1), (andT, 27, 2), ([61, 61], 23, 4), ([33, 61], 24, 4), ([60], 25, 4), ([60, 61], 26, 4), ([43], 20, 5), ([45], 21, 5), ([42], 22, 6), ([46], 8, 7), ([35], 9, 7), ([45, 62], 10, 7), ([94], 11, 7), ([63], 12, 7), ([33, 33], 13, 7)]
def onesL : List (List Nat × Nat × Nat) := [([116, 114, 117, 101], 3, 0), ([102, 97, 108, 115, 101], 4, 0), ([115, 101, 108, 102], 5, 0), ([110, 111, 110, 101], 6, 0), ([115, 105, 122, 101], 14, 1), ([102, 105, 114, 115, 116], 15, 1), ([116, 101, 120, 116], 16, 1), ([99, 111, 110, 99, 101, 112, 116], 17, 1), ([105, 100], 18, 1), ([105, 110, 116], 19, 1), ([97, 110, 121], 31, 2), ([101, 118, 101, 114, 121], 32, 2), ([111, 110, 108, 121], 33, 2), ([115, 117, 109], 34, 2), ([105, 102], 30, 3)]
def oneN (s : List Nat) : Nat × Nat := match onesL.find? (fun x => decide (x.1 = s)) with
  | some x => x.2
  | none => (0, 0)
def isT (l : List Tok) (i : Nat) (s : List Nat) : Bool := match l[i]? with
  | some t => decide (4 ≤ t.kind) && decide (t.text = s)
  | none => false
def signK (l : List Tok) (n i : Nat) : Nat := match signsL.find? (fun x => decide (x.2.2 = n) && isT l i x.1) with
  | some x => x.2.1
  | none => 0
def PR.bind (r : PR) (g : Tr → Nat → PR) : PR := match r with
  | .ok t i => g t i
  | .no i => .no i
  | .out => .out
def want (l : List Tok) (i : Nat) (s : List Nat) (r : PR) : PR := if isT l i s then r else .no i
def nameAt (l : List Tok) (i : Nat) (g : List Nat → PR) : PR := match l[i]? with
  | some t => if t.kind = 3 then g t.text else .no i
  | none => .no i
mutual
def pL (l : List Tok) : Nat → Nat → Nat → PR
  | 0, _, _ => .out
  | f + 1, n, i =>
    if n = 3 then (if isT l i notT then (pL l f 3 (i + 1)).bind fun k j => .ok (.node 29 [] 0 [k]) j else pL l f 4 i)
    else if n = 7 then (pP l f i).bind fun t j => pQ l f t j
    else (pL l f (n + 1) i).bind fun t j => pR l f n t j
def pR (l : List Tok) : Nat → Nat → Tr → Nat → PR
  | 0, _, _, _ => .out
  | f + 1, n, t, i =>
    if signK l n i = 0 then .ok t i
    else (pL l f (n + 1) (i + 1)).bind fun r j => if n = 4 then .ok (.node (signK l n i) [] 0 [t, r]) j else pR l f n (.node (signK l n i) [] 0 [t, r]) j
def pQ (l : List Tok) : Nat → Tr → Nat → PR
  | 0, _, _ => .out
  | f + 1, t, i =>
    if signK l 7 i = 0 then .ok t i
    else if signK l 7 i = 11 then pQ l f (.node 11 [] 0 [t]) (i + 1)
    else nameAt l (i + 1) fun s => pQ l f (.node (signK l 7 i) s 0 [t]) (i + 2)
def pP (l : List Tok) : Nat → Nat → PR
  | 0, _ => .out
  | f + 1, i => match l[i]? with
    | none => .no i
    | some t =>
      if t.kind = 1 then .ok (.node 1 [] t.num []) (i + 1)
      else if t.kind = 2 then .ok (.node 2 t.text 0 []) (i + 1)
      else if t.kind = 3 then .ok (.node 7 t.text 0 []) (i + 1)
      else if t.kind = 5 then
        (if t.text = minusT then (match l[i + 1]? with
            | some x => if x.kind = 1 then .ok (.node 1 [] (-x.num) []) (i + 2) else .no (i + 1)
            | none => .no (i + 1))
          else if t.text = openT then (pL l f 1 (i + 1)).bind fun k j => want l j closeT (.ok k (j + 1))
          else .no i)
      else match oneN t.text with
        | (0, _) => .no i
        | (k, 0) => .ok (.node k [] 0 []) (i + 1)
        | (k, 1) => want l (i + 1) openT ((pL l f 1 (i + 2)).bind fun a j => want l j closeT (.ok (.node k [] 0 [a]) (j + 1)))
        | (k, 2) => nameAt l (i + 1) fun s => want l (i + 2) inT ((pL l f 1 (i + 3)).bind fun a j => want l j colonT ((pL l f 1 (j + 1)).bind fun b m => want l m endT (.ok (.node k s 0 [a, b]) (m + 1))))
        | (k, _) => (pL l f 1 (i + 1)).bind fun a j => want l j thenT ((pL l f 1 (j + 1)).bind fun b m => want l m elseT ((pL l f 1 (m + 1)).bind fun c q => want l q endT (.ok (.node k [] 0 [a, b, c]) (q + 1))))
end
def PR.In (r : PR) (l : List Tok) (i s : Nat) : Prop := match r with
  | .ok t j => i ≤ j ∧ j ≤ l.length ∧ t.size + i ≤ s + j
  | .no j => j ≤ l.length
  | .out => False
theorem isT_lt {l : List Tok} {i : Nat} {s : List Nat} (h : isT l i s = true) : i < l.length := by
  unfold isT at h
  cases hx : l[i]? with
  | none => rw [hx] at h; cases h
  | some t => exact (List.getElem?_eq_some_iff.1 hx).1
theorem signK_lt {l : List Tok} {n i : Nat} (h : signK l n i ≠ 0) : i < l.length := by
  unfold signK at h
  cases hx : signsL.find? (fun x => decide (x.2.2 = n) && isT l i x.1) with
  | none => rw [hx] at h; exact absurd rfl h
  | some x =>
    have := List.find?_some hx
    rw [Bool.and_eq_true] at this
    exact isT_lt this.2
theorem In_bind {r : PR} {l : List Tok} {i s i' s' : Nat} {g : Tr → Nat → PR} (h : r.In l i s) (hg : ∀ t j, i ≤ j → j ≤ l.length → t.size + i ≤ s + j → (g t j).In l i' s') : (r.bind g).In l i' s' := by
  cases r with
  | ok t j => exact hg t j h.1 h.2.1 h.2.2
  | no j => exact h
  | out => exact h
theorem In_want {l : List Tok} {i i' s' : Nat} {s : List Nat} {r : PR} (hi : i ≤ l.length) (h : i < l.length → r.In l i' s') : (want l i s r).In l i' s' := by
  unfold want
  split
  · rename_i hs; exact h (isT_lt hs)
  · exact hi
theorem In_name {l : List Tok} {i i' s' : Nat} {g : List Nat → PR} (hi : i ≤ l.length) (h : i < l.length → ∀ s, (g s).In l i' s') : (nameAt l i g).In l i' s' := by
  unfold nameAt
  cases hx : l[i]? with
  | none => exact hi
  | some t =>
    simp only
    split
    · exact h (List.getElem?_eq_some_iff.1 hx).1 _
    · exact hi
theorem p_told (l : List Tok) : ∀ f : Nat,
    (∀ n i, 1 ≤ n → n ≤ 7 → i ≤ l.length → 12 * (l.length - i) + (11 - n) ≤ f → (pL l f n i).In l (i + 1) 1) ∧
    (∀ n t i, 1 ≤ n → n ≤ 6 → i ≤ l.length → 12 * (l.length - i) + 1 ≤ f → (pR l f n t i).In l i t.size) ∧
    (∀ t i, i ≤ l.length → 12 * (l.length - i) + 1 ≤ f → (pQ l f t i).In l i t.size) ∧
    (∀ i, i ≤ l.length → 12 * (l.length - i) + 2 ≤ f → (pP l f i).In l (i + 1) 1) := by
  intro f
  induction f with
  | zero => exact ⟨fun n i _ _ _ h => by omega, fun n t i _ _ _ h => by omega, fun t i _ h => by omega, fun i _ h => by omega⟩
  | succ f ih =>
    obtain ⟨hL, hR, hQ, hP⟩ := ih
    refine ⟨fun n i h1 h7 hi hf => ?_, fun n t i h1 h6 hi hf => ?_, fun t i hi hf => ?_, fun i hi hf => ?_⟩
    · rw [pL]
      split
      · split
        · rename_i hs
          have := isT_lt hs
          refine In_bind (hL 3 (i + 1) (by omega) (by omega) (by omega) (by omega)) fun t j g1 g2 g3 => ?_
          simp only [PR.In, Tr.size, sizeL]; omega
        · exact hL 4 i (by omega) (by omega) hi (by omega)
      · split
        · refine In_bind (hP i hi (by omega)) fun t j g1 g2 g3 => ?_
          have := hQ t j g2 (by omega)
          revert this
          cases pQ l f t j with
          | ok u k => simp only [PR.In]; omega
          | no k => exact id
          | out => exact id
        · refine In_bind (hL (n + 1) i (by omega) (by omega) hi (by omega)) fun t j g1 g2 g3 => ?_
          have := hR n t j (by omega) (by omega) g2 (by omega)
          revert this
          cases pR l f n t j with
          | ok u k => simp only [PR.In]; omega
          | no k => exact id
          | out => exact id
    · rw [pR]
      split
      · simp only [PR.In]; omega
      · rename_i hs
        have := signK_lt hs
        refine In_bind (hL (n + 1) (i + 1) (by omega) (by omega) (by omega) (by omega)) fun r j g1 g2 g3 => ?_
        split
        · simp only [PR.In, Tr.size, sizeL]; omega
        · have := hR n (.node (signK l n i) [] 0 [t, r]) j (by omega) (by omega) g2 (by omega)
          revert this
          cases pR l f n (.node (signK l n i) [] 0 [t, r]) j with
          | ok u k => simp only [PR.In, Tr.size, sizeL]; omega
          | no k => exact id
          | out => exact id
    · rw [pQ]
      split
      · simp only [PR.In]; omega
      · rename_i hs
        have := signK_lt hs
        split
        · have := hQ (.node 11 [] 0 [t]) (i + 1) (by omega) (by omega)
          revert this
          cases pQ l f (.node 11 [] 0 [t]) (i + 1) with
          | ok u k => simp only [PR.In, Tr.size, sizeL]; omega
          | no k => exact id
          | out => exact id
        · refine In_name (by omega) fun hl s => ?_
          have := hQ (.node (signK l 7 i) s 0 [t]) (i + 2) (by omega) (by omega)
          revert this
          cases pQ l f (.node (signK l 7 i) s 0 [t]) (i + 2) with
          | ok u k => simp only [PR.In, Tr.size, sizeL]; omega
          | no k => exact id
          | out => exact id
    · rw [pP]
      have hL1 : ∀ j, i < j → j ≤ l.length → (pL l f 1 j).In l (j + 1) 1 := fun j h1 h2 => hL 1 j (by omega) (by omega) h2 (by omega)
      cases hx : l[i]? with
      | none => exact hi
      | some t =>
        have hlt := (List.getElem?_eq_some_iff.1 hx).1
        have one : ∀ k s v, (PR.ok (.node k s v []) (i + 1)).In l (i + 1) 1 := fun k s v => by simp only [PR.In, Tr.size, sizeL]; omega
        simp only
        split
        · exact one _ _ _
        split
        · exact one _ _ _
        split
        · exact one _ _ _
        split
        · split
          · cases hy : l[i + 1]? with
            | none => exact hlt
            | some x =>
              have := (List.getElem?_eq_some_iff.1 hy).1
              simp only
              split
              · simp only [PR.In, Tr.size, sizeL]; omega
              · exact hlt
          split
          · refine In_bind (hL1 (i + 1) (by omega) (by omega)) fun k j g1 g2 g3 => In_want g2 fun _ => ?_
            simp only [PR.In]; omega
          · exact hi
        · split
          · exact hi
          · exact one _ _ _
          · refine In_want hlt fun _ => In_bind (hL1 (i + 2) (by omega) (by omega)) fun k j g1 g2 g3 => In_want g2 fun _ => ?_
            simp only [PR.In, Tr.size, sizeL]; omega
          · refine In_name hlt fun _ s => In_want (by omega) fun _ => In_bind (hL1 (i + 3) (by omega) (by omega)) fun a j g1 g2 g3 => In_want g2 fun _ => In_bind (hL1 (j + 1) (by omega) (by omega)) fun b m k1 k2 k3 => In_want k2 fun _ => ?_
            simp only [PR.In, Tr.size, sizeL]; omega
          · refine In_bind (hL1 (i + 1) (by omega) (by omega)) fun a j g1 g2 g3 => In_want g2 fun _ => In_bind (hL1 (j + 1) (by omega) (by omega)) fun b m k1 k2 k3 => In_want k2 fun _ => In_bind (hL1 (m + 1) (by omega) (by omega)) fun c q m1 m2 m3 => In_want m2 fun _ => ?_
            simp only [PR.In, Tr.size, sizeL]; omega
def parseT (l : List Tok) : PR := (pL l (12 * l.length + 10) 1 0).bind fun t i => if i < l.length then .no i else .ok t i
def parseN (s : List Nat) : List EN × Nat × Nat :=
  if (scanN s).2.2 ≠ 0 then ([], (scanN s).2.1, (scanN s).2.2)
  else match parseT (scanN s).1 with
    | .ok t _ => if 256 < t.size ∨ 32 < t.deep then ([], 0, 4) else (t.flat 0, 0, 0)
    | .no i => ([], (match (scanN s).1[i]? with | some x => x.place.toNat | none => s.length), 80)
    | .out => ([], 0, 0)
theorem parse_told (l : List Tok) : (pL l (12 * l.length + 10) 1 0).In l 1 1 := by
  have := (p_told l (12 * l.length + 10)).1 1 0 (by omega) (by omega) (by omega) (by omega)
  simpa using this
end Go.Proofs.YtpkggobhhieeoaaDoor
namespace Go.Proofs.YtpkggobhhieeoaaDoor
open Go.RowKit
structure Pc where
  kind : Int
  text : List Nat
  mark : List Nat
deriving DecidableEq
def cutN (s : List Nat) (b n : Nat) : List Nat := (s.take n).drop b
theorem cut_len {s : List Nat} {b n : Nat} (hn : n ≤ s.length) : (cutN s b n).length = n - b := by unfold cutN; rw [List.length_drop, List.length_take]; omega
theorem cut_bytes {s : List Nat} (hs : Bytes s) (b n : Nat) : Bytes (cutN s b n) := fun x hx => hs x (List.mem_of_mem_take (List.mem_of_mem_drop hx))
def nameTo (s : List Nat) (b : Nat) : Nat → Nat → Nat
  | 0, n => n
  | f + 1, n => if n < s.length ∧ rightN (cutN s b (n + 1)) = true then nameTo s b f (n + 1) else n
section
variable {s : List Nat} {b f n i k R : Nat}
theorem name_on (h : nameTo s b f n = R) (hf : 1 ≤ f) (hn : n < s.length) (hr : rightN (cutN s b (n + 1)) = true) : nameTo s b (f - 1) (n + 1) = R := by
  obtain ⟨f, rfl⟩ : ∃ g, f = g + 1 := ⟨f - 1, by omega⟩
  rw [← h, nameTo, if_pos ⟨hn, hr⟩]
  rfl
theorem name_end (h : nameTo s b f n = R) (hn : n < s.length → rightN (cutN s b (n + 1)) = false) : R = n := by
  cases f with
  | zero => exact h.symm
  | succ f => rw [← h, nameTo, if_neg (fun ⟨h1, h2⟩ => by rw [hn h1] at h2; cases h2)]
theorem name_in : ∀ (f n : Nat), n ≤ s.length → n ≤ nameTo s b f n ∧ nameTo s b f n ≤ s.length
  | 0, n, h => ⟨Nat.le_refl _, h⟩
  | f + 1, n, h => by
    rw [nameTo]
    split
    · rename_i hc
      have := name_in f (n + 1) hc.1
      exact ⟨by omega, this.2⟩
    · exact ⟨Nat.le_refl _, h⟩
def nameE (s : List Nat) (b : Nat) : Nat := nameTo s b s.length b
theorem nameE_in (h : b ≤ s.length) : b ≤ nameE s b ∧ nameE s b ≤ s.length := name_in _ _ h
def nameS (s : List Nat) (b : Nat) : (List Nat × Nat) ⊕ Nat := if nameE s b = b then .inr b else .inl (cutN s b (nameE s b), nameE s b)
def markS (s : List Nat) (a : Nat) : (List Nat × Nat) ⊕ Nat :=
  if s[a]? ≠ some 34 then .inr a else if (quoteAt s a).2.2 ≠ 0 then .inr (quoteAt s a).2.1 else if (quoteAt s a).1 = [] then .inr (a + 1) else .inl ((quoteAt s a).1, (quoteAt s a).2.1)
def quoteTo (s : List Nat) (i : Nat) : Nat := if (quoteAt s i).2.2 = 0 then (quoteAt s i).2.1 else s.length
def endTo (s : List Nat) : Nat → Nat → Nat
  | 0, i => i
  | f + 1, i => if i < s.length ∧ s[i]? ≠ some 125 then (if s[i]? = some 34 then endTo s f (quoteTo s i) else endTo s f (i + 1)) else i
theorem end_on (h : endTo s f i = R) (hf : 1 ≤ f) {c : Nat} (hc : s[i]? = some c) (h1 : c ≠ 125) (h2 : c ≠ 34) : endTo s (f - 1) (i + 1) = R := by
  obtain ⟨f, rfl⟩ : ∃ g, f = g + 1 := ⟨f - 1, by omega⟩
  rw [← h, endTo, if_pos ⟨(List.getElem?_eq_some_iff.1 hc).1, by rw [hc]; simpa using h1⟩, if_neg (by rw [hc]; simpa using h2)]
  rfl
theorem end_quote (h : endTo s f i = R) (hf : 1 ≤ f) (hc : s[i]? = some 34) : endTo s (f - 1) (quoteTo s i) = R := by
  obtain ⟨f, rfl⟩ : ∃ g, f = g + 1 := ⟨f - 1, by omega⟩
  rw [← h, endTo, if_pos ⟨(List.getElem?_eq_some_iff.1 hc).1, by rw [hc]; simp⟩, if_pos hc]
  rfl
theorem end_end (h : endTo s f i = R) (hi : i < s.length → s[i]? = some 125) : R = i := by
  cases f with
  | zero => exact h.symm
  | succ f => rw [← h, endTo, if_neg (fun ⟨h1, h2⟩ => h2 (hi h1))]
end
theorem quote_in {s : List Nat} {i : Nat} (hs : Bytes s) {t : List Nat} {k : Nat} (h : quoteAt s i = (t, k, 0)) : Bytes t ∧ i + 2 ≤ k ∧ k ≤ s.length := by
  have := unq_some _ _ _ _ _ _ hs bytes_nil h
  exact ⟨this.1, by omega, this.2.2⟩
theorem quoteTo_in {s : List Nat} {i : Nat} (hs : Bytes s) (hi : i < s.length) : i + 1 ≤ quoteTo s i ∧ quoteTo s i ≤ s.length := by
  unfold quoteTo
  split
  · rename_i h
    have := quote_in hs (i := i) (t := (quoteAt s i).1) (k := (quoteAt s i).2.1) (by rw [← h])
    omega
  · omega
theorem end_in {s : List Nat} (hs : Bytes s) : ∀ (f i : Nat), i ≤ s.length → i ≤ endTo s f i ∧ endTo s f i ≤ s.length
  | 0, i, h => ⟨Nat.le_refl _, h⟩
  | f + 1, i, h => by
    rw [endTo]
    split
    · rename_i hc
      split
      · have h1 := quoteTo_in hs hc.1
        have := end_in hs f (quoteTo s i) h1.2
        omega
      · have := end_in hs f (i + 1) (by omega)
        omega
    · exact ⟨Nat.le_refl _, h⟩
def endE (s : List Nat) (b : Nat) : Nat := endTo s s.length b
def exprS (s : List Nat) (b : Nat) : (List Nat × Nat) ⊕ Nat :=
  if (parseN (cutN s b (endE s b))).2.2 ≠ 0 then .inr (b + (parseN (cutN s b (endE s b))).2.1) else .inl (cutN s b (endE s b), endE s b)
def thenS {α β : Type} (x : (α × Nat) ⊕ Nat) (f : α → Nat → (β × Nat) ⊕ Nat) : (β × Nat) ⊕ Nat := match x with
  | .inl (a, k) => f a k
  | .inr k => .inr k
def insertS (s : List Nat) (b : Nat) : (Pc × Nat) ⊕ Nat :=
  if s[b]? = some 46 then thenS (nameS s (b + 1)) fun t k => .inl (⟨2, t, []⟩, k)
  else if s[b]? = some 35 then thenS (nameS s (b + 1)) fun t k => if s[k]? = some 32 then thenS (markS s (k + 1)) fun m j => .inl (⟨3, t, m⟩, j) else .inl (⟨3, t, []⟩, k)
  else if s[b]? = some 45 then (if s[b + 1]? = some 62 then thenS (nameS s (b + 2)) fun t k => if s[k]? = some 46 then thenS (nameS s (k + 1)) fun m j => .inl (⟨4, t, m⟩, j) else .inl (⟨4, t, []⟩, k) else .inr (b + 1))
  else if s[b]? = some 61 then thenS (exprS s (b + 1)) fun t k => .inl (⟨5, t, []⟩, k)
  else .inr b
def wordS (s : List Nat) : Nat → Nat → List Nat → (List Nat × Nat) ⊕ Nat
  | 0, i, out => .inl (out, i)
  | f + 1, i, out => match s[i]? with
    | none => .inl (out, i)
    | some c => if c = 123 ∧ s[i + 1]? ≠ some 123 then .inl (out, i)
      else if c = 123 ∨ c = 125 then (if s[i + 1]? = some c then wordS s f (i + 2) (out ++ [c]) else .inr (i + 1))
      else wordS s f (i + 1) (out ++ [c])
section
variable {s : List Nat} {f i : Nat} {o : List Nat} {R : (List Nat × Nat) ⊕ Nat}
theorem word_end (h : wordS s f i o = R) (hi : ∀ c, s[i]? = some c → c = 123 ∧ s[i + 1]? ≠ some 123) : R = .inl (o, i) := by
  cases f with
  | zero => exact h.symm
  | succ f =>
    rw [← h, wordS]
    cases hc : s[i]? with
    | none => rfl
    | some c => simp only; rw [if_pos (hi c hc)]
theorem word_two (h : wordS s f i o = R) (hf : 1 ≤ f) {c : Nat} (hc : s[i]? = some c) (h1 : c = 123 ∨ c = 125) (h2 : s[i + 1]? = some c) : wordS s (f - 1) (i + 2) (o ++ [c]) = R := by
  obtain ⟨f, rfl⟩ : ∃ g, f = g + 1 := ⟨f - 1, by omega⟩
  rw [← h, wordS, hc]
  simp only
  rw [if_neg (fun ⟨a, b⟩ => b (by rw [h2, a])), if_pos h1, if_pos h2]
  rfl
theorem word_no (h : wordS s f i o = R) (hf : 1 ≤ f) {c : Nat} (hc : s[i]? = some c) (h1 : ¬ (c = 123 ∧ s[i + 1]? ≠ some 123)) (h2 : c = 123 ∨ c = 125) (h3 : s[i + 1]? ≠ some c) : R = .inr (i + 1) := by
  obtain ⟨f, rfl⟩ : ∃ g, f = g + 1 := ⟨f - 1, by omega⟩
  rw [← h, wordS, hc]
  simp only
  rw [if_neg h1, if_pos h2, if_neg h3]
theorem word_one (h : wordS s f i o = R) (hf : 1 ≤ f) {c : Nat} (hc : s[i]? = some c) (h1 : ¬ (c = 123 ∨ c = 125)) : wordS s (f - 1) (i + 1) (o ++ [c]) = R := by
  obtain ⟨f, rfl⟩ : ∃ g, f = g + 1 := ⟨f - 1, by omega⟩
  rw [← h, wordS, hc]
  simp only
  rw [if_neg (fun ⟨a, _⟩ => h1 (.inl a)), if_neg h1]
  rfl
end
def WIn (s : List Nat) (i n : Nat) : (List Nat × Nat) ⊕ Nat → Prop
  | .inl (t, k) => Bytes t ∧ i ≤ k ∧ k ≤ s.length ∧ t.length ≤ n + (k - i)
  | .inr k => i ≤ k ∧ k ≤ s.length
theorem WIn.l {s : List Nat} {i n k : Nat} {t : List Nat} (h1 : Bytes t) (h2 : i ≤ k) (h3 : k ≤ s.length) (h4 : t.length ≤ n + (k - i)) : WIn s i n (.inl (t, k)) := ⟨h1, h2, h3, h4⟩
theorem WIn.r {s : List Nat} {i n k : Nat} (h2 : i ≤ k) (h3 : k ≤ s.length) : WIn s i n (.inr k) := ⟨h2, h3⟩
theorem WIn.more {s : List Nat} {i j n m : Nat} (hi : i ≤ j) (hn : m ≤ n + (j - i)) : ∀ {x}, WIn s j m x → WIn s i n x
  | .inl (t, k), h => by obtain ⟨h1, h2, h3, h4⟩ := h; exact .l h1 (by omega) h3 (by omega)
  | .inr k, h => by obtain ⟨h1, h2⟩ := h; exact .r (by omega) h2
theorem word_in {s : List Nat} (hs : Bytes s) : ∀ (f i : Nat) (o : List Nat), i ≤ s.length → Bytes o → WIn s i o.length (wordS s f i o)
  | 0, i, o, h, ho => .l ho zL h (by omega)
  | f + 1, i, o, h, ho => by
    rw [wordS]
    cases hc : s[i]? with
    | none => exact .l ho zL h (by omega)
    | some c =>
      have hi := (List.getElem?_eq_some_iff.1 hc).1
      have hb : Bytes (o ++ [c]) := bytes_app ho (fun x hx => by simp at hx; subst hx; exact hs _ (List.mem_iff_getElem?.2 ⟨i, hc⟩))
      simp only
      split
      · exact .l ho zL h (by omega)
      · split
        · split
          · rename_i h2
            have h2 := (List.getElem?_eq_some_iff.1 h2).1
            exact (word_in hs f (i + 2) (o ++ [c]) h2 hb).more (by omega) (by rw [List.length_append, List.length_singleton]; omega)
          · exact .r (by omega) (by omega)
        · exact (word_in hs f (i + 1) (o ++ [c]) hi hb).more (by omega) (by rw [List.length_append, List.length_singleton]; omega)
def insB (s : List Nat) (i : Nat) : Bool := decide (s[i]? = some 123) && !decide (s[i + 1]? = some 123)
def rowS (s : List Nat) : Nat → Nat → List Pc → List Pc × Nat × Nat
  | 0, _, out => (out, 0, 0)
  | f + 1, i, out => if s.length ≤ i then (out, 0, 0) else if out.length = 64 then ([], i, 4)
    else if insB s i = true then
      match insertS s (i + 1) with
      | .inr k => ([], k, 200)
      | .inl (p, k) => if s[k]? = some 125 then rowS s f (k + 1) (out ++ [p]) else ([], k, 200)
    else match wordS s s.length i [] with
      | .inr k => ([], k, 200)
      | .inl (w, k) => rowS s f k (out ++ [⟨1, w, []⟩])
def rowN (s : List Nat) : List Pc × Nat × Nat := if 4096 < s.length then ([], 0, 3) else rowS s s.length 0 []
section
variable {s : List Nat} {f i : Nat} {o : List Pc} {R : List Pc × Nat × Nat}
theorem row_end (h : rowS s f i o = R) (hi : s.length ≤ i) : R = (o, 0, 0) := by
  cases f with
  | zero => exact h.symm
  | succ f => rw [← h, rowS, if_pos hi]
theorem row_full (h : rowS s f i o = R) (hf : 1 ≤ f) (hi : i < s.length) (ho : o.length = 64) : R = ([], i, 4) := by
  obtain ⟨f, rfl⟩ : ∃ g, f = g + 1 := ⟨f - 1, by omega⟩
  rw [← h, rowS, if_neg (by omega), if_pos ho]
theorem row_ins (h : rowS s f i o = R) (hf : 1 ≤ f) (hi : i < s.length) (ho : o.length ≠ 64) (hb : insB s i = true) {p : Pc} {k : Nat} (hp : insertS s (i + 1) = .inl (p, k)) (hk : s[k]? = some 125) : rowS s (f - 1) (k + 1) (o ++ [p]) = R := by
  obtain ⟨f, rfl⟩ : ∃ g, f = g + 1 := ⟨f - 1, by omega⟩
  rw [← h, rowS, if_neg (by omega), if_neg ho, if_pos hb, hp]
  simp only
  rw [if_pos hk]
  rfl
theorem row_ins_no (h : rowS s f i o = R) (hf : 1 ≤ f) (hi : i < s.length) (ho : o.length ≠ 64) (hb : insB s i = true) {p : Pc} {k : Nat} (hp : insertS s (i + 1) = .inl (p, k)) (hk : s[k]? ≠ some 125) : R = ([], k, 200) := by
  obtain ⟨f, rfl⟩ : ∃ g, f = g + 1 := ⟨f - 1, by omega⟩
  rw [← h, rowS, if_neg (by omega), if_neg ho, if_pos hb, hp]
  simp only
  rw [if_neg hk]
theorem row_ins_bad (h : rowS s f i o = R) (hf : 1 ≤ f) (hi : i < s.length) (ho : o.length ≠ 64) (hb : insB s i = true) {k : Nat} (hp : insertS s (i + 1) = .inr k) : R = ([], k, 200) := by
  obtain ⟨f, rfl⟩ : ∃ g, f = g + 1 := ⟨f - 1, by omega⟩
  rw [← h, rowS, if_neg (by omega), if_neg ho, if_pos hb, hp]
theorem row_word (h : rowS s f i o = R) (hf : 1 ≤ f) (hi : i < s.length) (ho : o.length ≠ 64) (hb : insB s i = false) {w : List Nat} {k : Nat} (hp : wordS s s.length i [] = .inl (w, k)) : rowS s (f - 1) k (o ++ [⟨1, w, []⟩]) = R := by
  obtain ⟨f, rfl⟩ : ∃ g, f = g + 1 := ⟨f - 1, by omega⟩
  rw [← h, rowS, if_neg (by omega), if_neg ho, if_neg (by rw [hb]; simp), hp]
  rfl
theorem row_word_no (h : rowS s f i o = R) (hf : 1 ≤ f) (hi : i < s.length) (ho : o.length ≠ 64) (hb : insB s i = false) {k : Nat} (hp : wordS s s.length i [] = .inr k) : R = ([], k, 200) := by
  obtain ⟨f, rfl⟩ : ∃ g, f = g + 1 := ⟨f - 1, by omega⟩
  rw [← h, rowS, if_neg (by omega), if_neg ho, if_neg (by rw [hb]; simp), hp]
end
theorem word_on {s : List Nat} (hs : Bytes s) {i k : Nat} {w : List Nat} (hi : i < s.length) (hb : insB s i = false) (h : wordS s s.length i [] = .inl (w, k)) : i < k := by
  obtain ⟨f, hf⟩ : ∃ g, s.length = g + 1 := ⟨s.length - 1, by omega⟩
  obtain ⟨c, hc⟩ : ∃ c, s[i]? = some c := ⟨_, List.getElem?_eq_getElem hi⟩
  have h1 : ¬ (c = 123 ∧ s[i + 1]? ≠ some 123) := fun ⟨a, b⟩ => by
    rw [insB, hc, a] at hb
    simp at hb
    exact b hb
  have hbc : Bytes ([] ++ [c]) := fun x hx => by simp at hx; subst hx; exact hs _ (List.mem_iff_getElem?.2 ⟨i, hc⟩)
  rw [hf, wordS, hc] at h
  simp only at h
  rw [if_neg h1] at h
  split at h
  · split at h
    · rename_i h2
      have h3 := word_in hs f (i + 2) ([] ++ [c]) (List.getElem?_eq_some_iff.1 h2).1 hbc
      rw [h] at h3
      have := h3.2.1
      omega
    · cases h
  · have h3 := word_in hs f (i + 1) ([] ++ [c]) hi hbc
    rw [h] at h3
    have := h3.2.1
    omega
theorem wf47 {x : Int} (h1 : -9223372036854775808 ≤ x) (h2 : x ≤ 9223372036854775807) : (Lit.int .i64 x).wf = true := by
  simpa [Lit.wf, IntKind.min, IntKind.max, IntKind.signed, IntKind.bits] using ⟨h1, h2⟩
def Pc.cells (p : Pc) : List Value := [.int .i64 p.kind, .string (txt p.text), .string (txt p.mark)]
def Pc.ok (p : Pc) : Prop := Bytes p.text ∧ Bytes p.mark ∧ p.text.length ≤ 4096 ∧ p.mark.length ≤ 4096 ∧ (Lit.int .i64 p.kind).wf = true
def Pc.Is (x : List Value) (p : Pc) : Prop := x = p.cells ∧ p.ok
end Go.Proofs.YtpkggobhhieeoaaDoor
namespace Go.Proofs.YtpkggobhhieeoaaDoor
open Go.RowKit
structure Mv (q : Nat) (W W' : World) : Prop where
  low : Below q W W'
  high : ∀ k, q < k → k < W.heap.size → W'.heap[k]? = W.heap[k]?
theorem Mv.refl (q : Nat) (W : World) : Mv q W W := ⟨zB, fun _ _ _ => rfl⟩
theorem Mv.trans {q : Nat} {a b c : World} (h : Mv q a b) (k : Mv q b c) : Mv q a c :=
  ⟨h.low.trans k.low, fun j h1 h2 => (k.high j h1 (Nat.lt_of_lt_of_le h2 h.low.size)).trans (h.high j h1 h2)⟩
theorem Mv.of_below {q : Nat} {W W' : World} (hb : Below W.heap.size W W') (hq : q ≤ W.heap.size) : Mv q W W' := ⟨hb.mono hq, fun k _ h => hb.block k h⟩
theorem Mv.set (q : Nat) (W : World) (i : Nat) (u : Value) : Mv q W (W.setCell ⟨q, i, none⟩ u) :=
  ⟨(Below.refl q W).setCell (p := ⟨q, i, none⟩) (Nat.le_refl q) u, fun k h _ => Below.heap_setCell W ⟨q, i, none⟩ u k (by show k ≠ q; omega)⟩
theorem Mv.blk {q : Nat} {W W' : World} {g : Nat} {t : TypeId} {cs : Array Value} (h : Mv q W W') (hb : Blk W g t cs) (hg : q < g) : Blk W' g t cs := (h.high g hg hb.lt).trans hb
def signsV : Array Value := (signsL.map fun x => [Value.string (txt x.1), .int .i64 (x.2.1 : Int), .int .i64 (x.2.2 : Int)]).flatten.toArray
def Signs (w : World) : Prop := w.var? Tryd.prog "topiary/expr.signs" = some signsV
theorem signs_block {w : World} (h : Signs w) : ∃ t fr, w.heap[4]? = some (.cells signsV t fr) := by
  unfold Signs World.var? at h
  rw [show Tryd.prog.globalNamed "topiary/expr.signs" = some 4 by kernel_rfl] at h
  simp only [Option.bind_some] at h
  cases hh : w.heap[4]? with
  | none => rw [hh] at h; cases h
  | some o =>
    rw [hh] at h
    cases o with
    | cells cs t fr => simp only [Option.some.injEq] at h; subst h; exact ⟨t, fr, rfl⟩
    | _ => cases h
theorem Signs.of_block {w w' : World} (h : Signs w) (hb : w'.heap[4]? = w.heap[4]?) : Signs w' := by
  unfold Signs World.var? at h ⊢
  rw [show Tryd.prog.globalNamed "topiary/expr.signs" = some 4 by kernel_rfl] at h ⊢
  simp only [Option.bind_some] at h ⊢
  rw [hb]
  exact h
def TokG (t : Tok) : Prop := (t.kind = 1 ∧ 0 ≤ t.num) ∨ t.kind = 2 ∨ t.kind = 3 ∨ (t.kind = 4 ∧ t.text ∈ wordsL) ∨ (t.kind = 5 ∧ t.text ∈ marksL)
theorem TokG.range {t : Tok} (h : TokG t) : 1 ≤ t.kind ∧ t.kind ≤ 5 := by unfold TokG at h; omega
def placeAt (l : List Tok) (sz i : Nat) : Int := match l[i]? with
  | some t => t.place
  | none => (sz : Int)
def thrownE (k : Int) : List PanicEntry := [{ v := .iface 98 (.agg #[.int .i64 k]), recovered := false }]
structure PSt (q : Nat) (a : Option Addr) (c sz : Nat) (l : List Tok) (i : Nat) (W : World) : Prop where
  toks : SlR W q 4 Tok.Is (.slice a l.length c) l
  box : Blk W q 102 #[.slice a l.length c, .int .i64 (i : Int), .int .i64 (sz : Int)]
  low : 4 < q
  signs : Signs W
  le : i ≤ l.length
  few : l.length ≤ 4097
  good : ∀ t ∈ l, TokG t
section
variable {q : Nat} {a : Option Addr} {c sz : Nat} {l : List Tok} {i : Nat} {W W' : World}
theorem PSt.mv {j : Nat} (h : PSt q a c sz l i W) (hm : Below q W W') (hb : Blk W' q 102 #[.slice a l.length c, .int .i64 (j : Int), .int .i64 (sz : Int)]) (hj : j ≤ l.length) : PSt q a c sz l j W' :=
  ⟨h.toks.below hm, hb, h.low, h.signs.of_block (hm.block 4 h.low), hj, h.few, h.good⟩
theorem PSt.keep (h : PSt q a c sz l i W) (hb : Below W.heap.size W W') : PSt q a c sz l i W' :=
  h.mv (hb.mono (Nat.le_of_lt h.box.lt)) (h.box.below hb h.box.lt) h.le
theorem PSt.set (h : PSt q a c sz l i W) {j : Nat} {u : Value} (hu : u = .int .i64 (j : Int)) (hj : j ≤ l.length) : PSt q a c sz l j (W.setCell ⟨q, 1, none⟩ u) := by
  subst hu
  exact h.mv (Mv.set _ _ _ _).low (h.box.set_ 1 _) hj
theorem PSt.facts (h : PSt q a c sz l i W) : W.cell? ⟨q, 0, none⟩ = some (.slice a l.length c) ∧ W.cell? ⟨q, 1, none⟩ = some (.int .i64 (i : Int)) ∧ W.cell? ⟨q, 2, none⟩ = some (.int .i64 (sz : Int)) ∧ W.frozen? ⟨q, 1, none⟩ = false ∧ q < W.heap.size :=
  ⟨h.box.cell rfl, h.box.cell rfl, h.box.cell rfl, h.box.frozen 1, h.box.lt⟩
theorem PSt.tok (h : PSt q a c sz l i W) {k : Nat} {t : Tok} (ht : l[k]? = some t) : ∃ b off, a = some ⟨b, off, none⟩ ∧ W.cell? ⟨b, off + k * 4, none⟩ = some (.int .i64 t.kind) ∧ W.cell? ⟨b, off + k * 4 + 1, none⟩ = some (.string (txt t.text)) ∧ W.cell? ⟨b, off + k * 4 + 2, none⟩ = some (.int .i64 t.num) ∧ W.cell? ⟨b, off + k * 4 + 3, none⟩ = some (.int .i64 t.place) ∧ t.ok := by
  obtain ⟨b, off, x, ha, _, hx, ⟨rfl, hok⟩, hc⟩ := h.toks.at_ ht
  refine ⟨b, off, ha, ?_, hc 1 _ rfl, hc 2 _ rfl, hc 3 _ rfl, hok⟩
  have := hc 0 _ rfl
  rwa [Nat.add_zero] at this
end
theorem txt_inj {s t : List Nat} (hs : Bytes s) (ht : Bytes t) (h : (txt s).toList = (txt t).toList) : s = t := by
  have h1 := (toList_inj _ _).1 h
  rw [← bs_txt hs, ← bs_txt ht, h1]
theorem PSt.bytes {q : Nat} {a : Option Addr} {c sz : Nat} {l : List Tok} {i : Nat} {W : World} (h : PSt q a c sz l i W) {k : Nat} {t : Tok} (ht : l[k]? = some t) : Bytes t.text := by
  obtain ⟨_, _, _, _, _, _, _, hok⟩ := h.tok ht
  exact hok.1
theorem p_next {q : Nat} {a : Option Addr} {c sz : Nat} {l : List Tok} {i : Nat} {W : World} (s : List Nat) (hs : Bytes s) (b : Bool) (hb : isT l i s = b) (h : PSt q a c sz l i W) :
    Calls Tryd.prog 103 #[.pointer (some ⟨q, 0, none⟩), .string (txt s)] W fun e w' => e = .returned (.bool b) ∧ Quiet W w' := by
  obtain ⟨f0, f1, f2, f3, f4⟩ := h.facts
  obtain ⟨n, hn⟩ : ∃ n, l.length = n := ⟨_, rfl⟩
  have hle := h.le
  have hfew := h.few
  rw [hn] at f0 hle hfew
  have n63 : n ≤ 9223372036854775807 := by omega
  by_cases hlt : i < n
  · obtain ⟨t, ht⟩ := get_some hn hlt
    obtain ⟨b0, off, rfl, t0, t1, _, _, hok⟩ := h.tok ht
    have hk := (h.good t (List.mem_iff_getElem?.2 ⟨i, ht⟩)).range
    have hB : b = (decide (4 ≤ t.kind) && decide (t.text = s)) := by rw [← hb]; unfold isT; rw [ht]
    obtain ⟨kd, hkd⟩ : ∃ k, t.kind = k := ⟨_, rfl⟩
    obtain ⟨tt, htt⟩ : ∃ k, t.text = k := ⟨_, rfl⟩
    have htb := hok.1
    rw [hkd] at t0 hk hB
    rw [htt] at t1 hB htb
    have HB := zH hB
    clear h hb hn ht hkd htt hok hB
    have dlt : decide (i < n) = true := by simpa using hlt
    by_cases hts : tt = s
    · subst hts
      by_cases h5 : kd = 5
      · subst h5
        have Hk := zH hk
        clear hk
        go_enter Tryd.func103, Tryd.ntmps103
        go_wp2_with fail
        go_quiet (fail)
        go_wp2_with fail
        go_ret
        exact ⟨by rw [HB.out]; simp, ⟨_, rfl⟩⟩
      · have e5 : (kd == 5) = false := by simpa using h5
        by_cases h4 : kd = 4
        · subst h4
          have Hk := zH hk
          clear hk h5
          go_enter Tryd.func103, Tryd.ntmps103
          go_wp2_with fail
          go_quiet (fail)
          go_wp2_with fail
          go_ret
          exact ⟨by rw [HB.out]; simp, ⟨_, rfl⟩⟩
        · have e4 : (kd == 4) = false := by simpa using h4
          have h3 : decide (4 ≤ kd) = false := by simp; omega
          have Hk := zH hk
          rw [h3] at HB
          clear hk h3
          go_enter Tryd.func103, Tryd.ntmps103
          go_wp2_with fail
          go_quiet (fail)
          go_wp2_with fail
          go_ret
          exact ⟨by rw [HB.out]; simp, ⟨_, rfl⟩⟩
    · have hne : ¬ (txt tt).toList = (txt s).toList := fun e => hts (txt_inj htb hs e)
      have hd : decide (tt = s) = false := by simpa using hts
      rw [hd, Bool.and_false] at HB
      clear hts hd htb hs
      by_cases h5 : kd = 5
      · subst h5
        have Hk := zH hk
        clear hk
        go_enter Tryd.func103, Tryd.ntmps103
        go_wp2_with fail
        go_quiet (fail)
        go_wp2_with fail
        go_ret
        exact ⟨by rw [HB.out]; try simp [hne], ⟨_, rfl⟩⟩
      · have e5 : (kd == 5) = false := by simpa using h5
        by_cases h4 : kd = 4
        · subst h4
          have Hk := zH hk
          clear hk h5
          go_enter Tryd.func103, Tryd.ntmps103
          go_wp2_with fail
          go_quiet (fail)
          go_wp2_with fail
          go_ret
          exact ⟨by rw [HB.out]; try simp [hne], ⟨_, rfl⟩⟩
        · have e4 : (kd == 4) = false := by simpa using h4
          have Hk := zH hk
          clear hk
          go_enter Tryd.func103, Tryd.ntmps103
          go_wp2_with fail
          go_quiet (fail)
          go_wp2_with fail
          go_ret
          exact ⟨by have hb := HB.out; subst hb; rfl, ⟨_, rfl⟩⟩
  · have hB : b = false := by rw [← hb]; unfold isT; rw [List.getElem?_eq_none (by omega)]
    obtain rfl : i = n := by omega
    have dlt : decide (i < i) = false := by simp
    have HB := zH hB
    clear h hb hn hB hlt
    go_enter Tryd.func103, Tryd.ntmps103
    go_wp2_with fail
    go_quiet (fail)
    go_wp2_with fail
    go_ret
    exact ⟨by have hb := HB.out; subst hb; rfl, ⟨_, rfl⟩⟩
end Go.Proofs.YtpkggobhhieeoaaDoor
namespace Go.Proofs.YtpkggobhhieeoaaDoor
open Go.RowKit
structure High (lo : Nat) (w w' : World) : Prop where
  size : w.heap.size ≤ w'.heap.size
  same : ∀ k, lo ≤ k → k < w.heap.size → w'.heap[k]? = w.heap[k]?
theorem High.refl (lo : Nat) (w : World) : High lo w w := ⟨Nat.le_refl _, fun _ _ _ => rfl⟩
theorem High.trans {lo : Nat} {a b c : World} (h : High lo a b) (k : High lo b c) : High lo a c :=
  ⟨Nat.le_trans h.size k.size, fun j h1 h2 => (k.same j h1 (Nat.lt_of_lt_of_le h2 h.size)).trans (h.same j h1 h2)⟩
theorem High.mono {lo lo' : Nat} {a b : World} (h : High lo a b) (hl : lo ≤ lo') : High lo' a b := ⟨h.size, fun k h1 h2 => h.same k (Nat.le_trans hl h1) h2⟩
theorem High.of_mv {q : Nat} {W W' : World} (h : Mv q W W') {lo : Nat} (hl : q < lo) : High lo W W' := ⟨h.low.size, fun k h1 h2 => h.high k (Nat.lt_of_lt_of_le hl h1) h2⟩
theorem High.of_below {W W' : World} {B : Nat} (h : Below B W W') (hB : W.heap.size ≤ B) (lo : Nat) : High lo W W' := ⟨h.size, fun k _ h2 => h.block k (Nat.lt_of_lt_of_le h2 hB)⟩
theorem High.of_set (W : World) {p : Addr} (u : Value) {lo : Nat} (hp : p.block < lo) : High lo W (W.setCell p u) :=
  ⟨by simp, fun k h1 _ => Below.heap_setCell W p u k (by omega)⟩
theorem Own1.stay {α : Type} {w w' : World} {lo size : Nat} {e : TypeId} {R : List Value → α → Prop} {v : Value} {l : List α} (h : Own1 w lo e size R v l) (hk : ∀ b, v.ownBlock = some b → b < w.heap.size → w'.heap[b]? = w.heap[b]?) : Own1 w' lo e size R v l := by
  obtain ⟨xs, h1, h2⟩ := h
  refine ⟨xs, ⟨h1.1, ?_⟩, h2⟩
  rcases h1.2 with r | ⟨g, cap, cur, r1, r2, r3, r4⟩
  · exact .inl r
  · have hg : g < w.heap.size := by
      rcases Nat.lt_or_ge g w.heap.size with hlt | hge
      · exact hlt
      · rw [Array.getElem?_eq_none hge] at r3; cases r3
    exact .inr ⟨g, cap, cur, r1, r2, (hk g (by rw [r1]; rfl) hg).trans r3, r4⟩
def IsPtr : List Value → Nat → Prop := fun x g => x = [.pointer (some ⟨g, 0, none⟩)]
mutual
def TreeIn (w : World) (S : Nat → Prop) : Tr → Nat → Prop
  | .node k s n ks, g => S g ∧ ∃ (v : Value) (gs : List Nat), Blk w g 126 #[.int .i64 (k : Int), .string (txt s), .int .i64 n, .slice none 0 0, v] ∧ Own1 w 0 103 1 IsPtr v gs ∧ (∀ b, v.ownBlock = some b → S b) ∧ TreesIn w S ks gs
def TreesIn (w : World) (S : Nat → Prop) : List Tr → List Nat → Prop
  | [], gs => gs = []
  | t :: ts, gs => ∃ g gs', gs = g :: gs' ∧ TreeIn w S t g ∧ TreesIn w S ts gs'
end
def TreeAt (w : World) (lo : Nat) (t : Tr) (g : Nat) : Prop := TreeIn w (fun k => lo ≤ k) t g
mutual
theorem TreeIn.stay {w w' : World} {S : Nat → Prop} (hk : ∀ k, S k → k < w.heap.size → w'.heap[k]? = w.heap[k]?) : ∀ {t : Tr} {g : Nat}, TreeIn w S t g → TreeIn w' S t g
  | .node k s n ks, g, h => by
    simp only [TreeIn] at h ⊢
    obtain ⟨h1, v, gs, h2, h3, h5, h4⟩ := h
    exact ⟨h1, v, gs, h2.keep (hk g h1 h2.lt), h3.stay (fun b hb hl => hk b (h5 b hb) hl), h5, TreesIn.stay hk h4⟩
theorem TreesIn.stay {w w' : World} {S : Nat → Prop} (hk : ∀ k, S k → k < w.heap.size → w'.heap[k]? = w.heap[k]?) : ∀ {ts : List Tr} {gs : List Nat}, TreesIn w S ts gs → TreesIn w' S ts gs
  | [], gs, h => by simp only [TreesIn] at h ⊢; exact h
  | t :: ts, gs, h => by
    simp only [TreesIn] at h ⊢
    obtain ⟨g, gs', h1, h2, h3⟩ := h
    exact ⟨g, gs', h1, h2.stay hk, TreesIn.stay hk h3⟩
end
mutual
theorem TreeIn.imp {w : World} {S S' : Nat → Prop} (hl : ∀ k, S k → k < w.heap.size → S' k) : ∀ {t : Tr} {g : Nat}, TreeIn w S t g → TreeIn w S' t g
  | .node k s n ks, g, h => by
    simp only [TreeIn] at h ⊢
    obtain ⟨h1, v, gs, h2, h3, h5, h4⟩ := h
    exact ⟨hl _ h1 h2.lt, v, gs, h2, h3, fun b hb => hl _ (h5 b hb) (h3.block b hb).2, TreesIn.imp hl h4⟩
theorem TreesIn.imp {w : World} {S S' : Nat → Prop} (hl : ∀ k, S k → k < w.heap.size → S' k) : ∀ {ts : List Tr} {gs : List Nat}, TreesIn w S ts gs → TreesIn w S' ts gs
  | [], gs, h => by simp only [TreesIn] at h ⊢; exact h
  | t :: ts, gs, h => by
    simp only [TreesIn] at h ⊢
    obtain ⟨g, gs', h1, h2, h3⟩ := h
    exact ⟨g, gs', h1, h2.imp hl, TreesIn.imp hl h3⟩
end
theorem TreesIn.app {w : World} {S : Nat → Prop} : ∀ {ts : List Tr} {gs : List Nat} {t : Tr} {g : Nat}, TreesIn w S ts gs → TreeIn w S t g → TreesIn w S (ts ++ [t]) (gs ++ [g])
  | [], gs, t, g, h, ht => by
    simp only [TreesIn] at h
    subst h
    simp only [List.nil_append, TreesIn]
    exact ⟨g, [], rfl, ht, rfl⟩
  | u :: ts, gs, t, g, h, ht => by
    simp only [TreesIn] at h
    obtain ⟨g', gs', rfl, h2, h3⟩ := h
    simp only [List.cons_append, TreesIn]
    exact ⟨g', gs' ++ [g], rfl, h2, TreesIn.app h3 ht⟩
theorem TreeAt.high {w w' : World} {lo : Nat} (hk : High lo w w') {t : Tr} {g : Nat} (h : TreeAt w lo t g) : TreeAt w' lo t g := TreeIn.stay (fun k h1 h2 => hk.same k h1 h2) h
theorem TreeAt.mono {w : World} {lo lo' : Nat} (hl : lo' ≤ lo) {t : Tr} {g : Nat} (h : TreeAt w lo t g) : TreeAt w lo' t g := TreeIn.imp (fun _ h1 _ => Nat.le_trans hl h1) h
theorem TreeIn.lo {w : World} {S : Nat → Prop} {t : Tr} {g : Nat} (h : TreeIn w S t g) : S g ∧ g < w.heap.size := by
  cases t with
  | node k s n ks =>
    simp only [TreeIn] at h
    obtain ⟨h1, v, gs, h2, _⟩ := h
    exact ⟨h1, h2.lt⟩
theorem p_of (k : Nat) (s : List Nat) (a : Option Addr) (n c : Nat) (W : World) : Calls Tryd.prog 93 #[.int .i64 (k : Int), .string (txt s), .slice a n c] W fun e w' =>
    e = .returned (.pointer (some ⟨W.heap.size, 0, none⟩)) ∧ w' = W.alloc (.cells #[.int .i64 (k : Int), .string (txt s), .int .i64 0, .slice none 0 0, .slice a n c] 126) := by
  go_enter Tryd.func93, Tryd.ntmps93
  go_wp2_with fail
  go_ret
  exact ⟨rfl, rfl⟩
end Go.Proofs.YtpkggobhhieeoaaDoor
namespace Go.Proofs.YtpkggobhhieeoaaDoor
def qS : Nat → List Nat → Option (List Nat) × Nat
  | 0, _ => (none, 0)
  | f + 1, r => if r.head? = some 34 then (some [], 1) else match one r with
    | (some (c, n), _) => ((qS f (r.drop n)).1.map (c :: ·), n + (qS f (r.drop n)).2)
    | (none, far) => (none, far)
def qR (r : List Nat) : Option (List Nat) × Nat := qS (r.length + 1) r
theorem bytes_drop {l : List Nat} (h : Bytes l) (n : Nat) : Bytes (l.drop n) := fun x hx => h x (List.mem_of_mem_drop hx)
theorem bytes_take {l : List Nat} (h : Bytes l) (n : Nat) : Bytes (l.take n) := fun x hx => h x (List.mem_of_mem_take hx)
theorem one_len {r : List Nat} (hr : Bytes r) (h34 : r.head? ≠ some 34) {c n m : Nat} (h : one r = (some (c, n), m)) : 1 ≤ n ∧ n ≤ r.length := by
  obtain ⟨_, h2, t, h3⟩ := one_some hr h34 h
  have := (form_len c).1
  rw [h3, List.length_append]
  omega
theorem qS_enough : ∀ (f f' : Nat) (r : List Nat), Bytes r → r.length < f → r.length < f' → qS f r = qS f' r
  | 0, _, r, _, h, _ => by omega
  | _, 0, r, _, _, h => by omega
  | f + 1, f' + 1, r, hr, h, h' => by
    rw [qS, qS]
    split
    · rfl
    · rename_i h34
      split
      · rename_i c n m hone
        have := one_len hr h34 hone
        rw [qS_enough f f' (r.drop n) (bytes_drop hr n) (by rw [List.length_drop]; omega) (by rw [List.length_drop]; omega)]
      · rfl
theorem qR_end {r : List Nat} (h : r.head? = some 34) : qR r = (some [], 1) := by
  unfold qR
  rw [qS, if_pos h]
theorem qR_stop {r : List Nat} {far : Nat} (h : r.head? ≠ some 34) (ho : one r = (none, far)) : qR r = (none, far) := by
  unfold qR
  rw [qS, if_neg h, ho]
theorem qR_step {r : List Nat} (hr : Bytes r) {c n m : Nat} (h : r.head? ≠ some 34) (ho : one r = (some (c, n), m)) : qR r = ((qR (r.drop n)).1.map (c :: ·), n + (qR (r.drop n)).2) := by
  have hl := one_len hr h ho
  unfold qR
  rw [qS, if_neg h, ho]
  simp only
  rw [qS_enough _ ((r.drop n).length + 1) (r.drop n) (bytes_drop hr n) (by rw [List.length_drop]; omega) (by omega)]
theorem unq_qS : ∀ (f i : Nat) (l o : List Nat), Bytes l → (l.drop i).length < f → unq l f i o = match qR (l.drop i) with
    | (some s, n) => (o ++ s, i + n, 0)
    | (none, n) => ([], i + n, 10)
  | 0, i, l, o, hl, h => by omega
  | f + 1, i, l, o, hl, h => by
    have hb := bytes_drop hl i
    rw [unq]
    by_cases h34 : l[i]? = some 34
    · rw [if_pos h34, qR_end (by rw [List.head?_drop]; exact h34)]
      simp
    · rw [if_neg h34]
      have h34' : (l.drop i).head? ≠ some 34 := by rw [List.head?_drop]; exact h34
      cases ho : one (l.drop i) with
      | mk a far =>
        cases a with
        | none => rw [qR_stop h34' ho]
        | some p =>
          obtain ⟨c, n⟩ := p
          have hn := one_len hb h34' ho
          rw [qR_step hb h34' ho]
          simp only
          rw [unq_qS f (i + n) l (o ++ [c]) hl (by rw [List.length_drop] at h hn ⊢; omega)]
          rw [List.drop_drop]
          cases hq : qR (l.drop (i + n)) with
          | mk a k =>
            cases a with
            | none => simp [Nat.add_assoc]
            | some s => simp [Nat.add_assoc]
theorem qR_bound : ∀ (N : Nat) (r : List Nat), r.length ≤ N → Bytes r → ∀ s n, qR r = (some s, n) → 1 ≤ n ∧ n ≤ r.length ∧ Bytes s ∧ ∃ p, r.take n = p ++ [34] ∧ p = s.flatMap formN
  | 0, r, hN, hr, s, n, h => by
    have : r = [] := List.eq_nil_of_length_eq_zero (by omega)
    subst this
    rw [qR_stop (far := 0) (by simp) rfl] at h
    cases h
  | N + 1, r, hN, hr, s, n, h => by
    by_cases h34 : r.head? = some 34
    · rw [qR_end h34] at h
      cases h
      cases r with
      | nil => cases h34
      | cons a t => injection h34 with h34; subst h34; exact ⟨Nat.le_refl _, by simp, bytes_nil, [], by simp, rfl⟩
    · cases ho : one r with
      | mk a far =>
        cases a with
        | none => rw [qR_stop h34 ho] at h; cases h
        | some q =>
          obtain ⟨c, m⟩ := q
          obtain ⟨c256, hm, t, ht⟩ := one_some hr h34 ho
          have hl := one_len hr h34 ho
          rw [qR_step hr h34 ho] at h
          cases hq : qR (r.drop m) with
          | mk a k =>
            rw [hq] at h
            cases a with
            | none => cases h
            | some s' =>
              cases h
              obtain ⟨h1, h2, h3, p, h4, h5⟩ := qR_bound N (r.drop m) (by rw [List.length_drop]; omega) (bytes_drop hr m) s' k hq
              rw [List.length_drop] at h2
              refine ⟨by omega, by omega, fun x hx => ?_, formN c ++ p, ?_, by rw [List.flatMap_cons, h5]⟩
              · rcases List.mem_cons.1 hx with rfl | hx
                · exact c256
                · exact h3 x hx
              · have e : r.take m = formN c := by rw [ht, hm, List.take_left]
                rw [List.take_add, e, h4, List.append_assoc]
theorem qR_of_form : ∀ (s y : List Nat), Bytes s → Bytes y → qR (s.flatMap formN ++ 34 :: y) = (some s, (s.flatMap formN).length + 1)
  | [], y, _, _ => by rw [List.flatMap_nil, List.nil_append, qR_end rfl]; rfl
  | c :: s, y, hs, hy => by
    have c256 : c < 256 := hs c (by simp)
    have hs' : Bytes s := fun x hx => hs x (List.mem_cons_of_mem _ hx)
    have hb : Bytes (s.flatMap formN ++ 34 :: y) := by
      intro x hx
      rcases List.mem_append.1 hx with hx | hx
      · obtain ⟨a, ha, hx⟩ := List.mem_flatMap.1 hx
        exact formN_bytes a (hs' a ha) x hx
      · rcases List.mem_cons.1 hx with rfl | hx
        · omega
        · exact hy x hx
    rw [List.flatMap_cons, List.append_assoc]
    have ho := one_of_form c256 (s.flatMap formN ++ 34 :: y)
    have h34 : (formN c ++ (s.flatMap formN ++ 34 :: y)).head? ≠ some 34 := by
      rcases form_cases c with ⟨_, h⟩ | ⟨_, h⟩ | ⟨_, h⟩ | ⟨h1, h2, h3, h4, h⟩ | ⟨_, h⟩ <;> rw [h] <;> simp
      exact h3
    rw [qR_step (bytes_app (formN_bytes c c256) hb) h34 ho, List.drop_left, qR_of_form s y hs' hy]
    simp [List.length_append, Nat.add_assoc]
theorem qR_local {r s : List Nat} {n : Nat} (hr : Bytes r) (h : qR r = (some s, n)) (y : List Nat) (hy : Bytes y) : qR (r.take n ++ y) = (some s, n) := by
  obtain ⟨h1, h2, h3, p, h4, h5⟩ := qR_bound r.length r zL hr s n h
  rw [h4, h5, List.append_assoc]
  have := qR_of_form s y h3 hy
  have hl : (s.flatMap formN).length + 1 = n := by
    have := congrArg List.length h4
    rw [List.length_take, List.length_append, h5] at this
    simp at this
    simp
    omega
  rw [hl] at this
  exact this
theorem common_le_right : ∀ (l r : List Nat), common l r ≤ r.length
  | [], r => by simp [common]
  | a :: l, [] => by simp [common]
  | a :: l, b :: r => by
    simp only [common, List.length_cons]
    split
    · have := common_le_right l r; omega
    · omega
theorem common_eq_take : ∀ (l r : List Nat), l.take (common l r) = r.take (common l r)
  | [], r => by simp [common]
  | a :: l, [] => by simp [common]
  | a :: l, b :: r => by
    simp only [common]
    split
    · rename_i h
      subst h
      rw [List.take_succ_cons, List.take_succ_cons, common_eq_take l r]
    · rfl
theorem common_self_take : ∀ (l r : List Nat), common l (r.take (common l r)) = common l r
  | [], r => by simp [common]
  | a :: l, [] => by simp [common]
  | a :: l, b :: r => by
    by_cases h : a = b
    · have e : common (a :: l) (b :: r) = common l r + 1 := by simp [common, h]
      rw [e, List.take_succ_cons]
      have e2 : common (a :: l) (b :: r.take (common l r)) = common l (r.take (common l r)) + 1 := by simp [common, h]
      rw [e2, common_self_take l r]
    · have e : common (a :: l) (b :: r) = 0 := by simp [common, h]
      rw [e]
      simp [common]
theorem one_far_le {r : List Nat} (hr : Bytes r) {far : Nat} (h : one r = (none, far)) : far ≤ r.length := by
  obtain ⟨_, c, _, hc⟩ := one_none hr h
  rw [← hc]
  exact common_le_right _ _
theorem hidden_15 {c : Nat} (hc : c < 256) (h : hiddenN c = true) : hiddenN (16 * (c / 16) + 15) = true := by
  have : ∀ c : Fin 256, hiddenN c.1 = true → hiddenN (16 * (c.1 / 16) + 15) = true := by decide +kernel
  exact this ⟨c, hc⟩ h
theorem form_ends {c : Nat} (hc : c < 256) {k : Nat} (hk : k < (formN c).length) : ∃ x ∈ [[34], [110, 34], [102, 102, 34], [102, 34]], ∃ s : List Nat, Bytes s ∧ (formN c).take k ++ x = s.flatMap formN ++ [34] := by
  have f10 : formN 10 = [92, 110] := by decide
  have f255 : formN 255 = [92, 120, 102, 102] := by decide
  rcases Nat.eq_zero_or_pos k with rfl | hk0
  · exact ⟨[34], by simp, [], bytes_nil, rfl⟩
  · rcases form_cases c with ⟨_, h⟩ | ⟨_, h⟩ | ⟨_, h⟩ | ⟨_, _, _, _, h⟩ | ⟨hh, h⟩
    all_goals rw [h] at hk ⊢
    all_goals simp only [List.length_cons, List.length_nil] at hk
    · obtain rfl : k = 1 := by omega
      exact ⟨[110, 34], by simp, [10], fun x hx => by simp at hx; omega, by simp [f10]⟩
    · obtain rfl : k = 1 := by omega
      exact ⟨[110, 34], by simp, [10], fun x hx => by simp at hx; omega, by simp [f10]⟩
    · obtain rfl : k = 1 := by omega
      exact ⟨[110, 34], by simp, [10], fun x hx => by simp at hx; omega, by simp [f10]⟩
    · omega
    · have hk3 : k = 1 ∨ k = 2 ∨ k = 3 := by omega
      rcases hk3 with rfl | rfl | rfl
      · exact ⟨[110, 34], by simp, [10], fun x hx => by simp at hx; omega, by simp [f10]⟩
      · exact ⟨[102, 102, 34], by simp, [255], fun x hx => by simp at hx; omega, by simp [f255]⟩
      · have h15 := hidden_15 hc hh
        have f15 := form_hidden h15
        have e1 : (16 * (c / 16) + 15) / 16 = c / 16 := by omega
        have e2 : (16 * (c / 16) + 15) % 16 = 15 := by omega
        rw [e1, e2] at f15
        exact ⟨[102, 34], by simp, [16 * (c / 16) + 15], fun x hx => by simp at hx; omega, by simp [f15]; decide⟩
theorem qR_cut : ∀ (N : Nat) (r : List Nat), r.length ≤ N → Bytes r → ∀ n, qR r = (none, n) → n ≤ r.length ∧ qR (r.take n) = (none, n) ∧ ∃ x ∈ [[34], [110, 34], [102, 102, 34], [102, 34]], ∃ s, qR (r.take n ++ x) = (some s, n + x.length)
  | N, r, hN, hr, n, h => by
    by_cases h34 : r.head? = some 34
    · rw [qR_end h34] at h; cases h
    · cases ho : one r with
      | mk a far =>
        cases a with
        | none =>
          rw [qR_stop h34 ho] at h
          cases h
          obtain ⟨hle, c, c256, hc⟩ := one_none hr ho
          have hfl := one_far_le hr ho
          have hpc : r.take n = (formN c).take n := by rw [← hc, common_eq_take]
          have hnl : n < (formN c).length := by
            have h1 := common_le_left (formN c) r
            rcases Nat.lt_or_ge n (formN c).length with hlt | hge
            · exact hlt
            · exfalso
              obtain ⟨t, ht⟩ := common_full (formN c) r (by omega)
              rw [ht, one_of_form c256] at ho
              cases ho
          refine ⟨hfl, ?_, ?_⟩
          · have hp34 : (r.take n).head? ≠ some 34 := by
              cases n with
              | zero => simp
              | succ n =>
                cases r with
                | nil => simp
                | cons a t => simpa using h34
            have hpb := bytes_take hr n
            cases ho2 : one (r.take n) with
            | mk a2 far2 =>
              cases a2 with
              | some q =>
                exfalso
                obtain ⟨c', k'⟩ := q
                obtain ⟨c256', hk', t, ht⟩ := one_some hpb hp34 ho2
                have e : r = formN c' ++ (t ++ r.drop n) := by rw [← List.append_assoc, ← ht, List.take_append_drop]
                rw [e, one_of_form c256'] at ho
                cases ho
              | none =>
                rw [qR_stop hp34 ho2]
                obtain ⟨hle2, c2, _, hc2⟩ := one_none hpb ho2
                have h1 := common_le_right (formN c2) (r.take n)
                rw [List.length_take] at h1
                have h2 := hle2 c c256
                have h3 : common (formN c) (r.take n) = n := by
                  have := common_self_take (formN c) r
                  rw [hc] at this
                  exact this
                rw [h3] at h2
                congr 1
                omega
          · obtain ⟨x, hx, s, hs, e⟩ := form_ends c256 hnl
            refine ⟨x, hx, s, ?_⟩
            rw [hpc, e]
            have := qR_of_form s [] hs bytes_nil
            rw [this]
            have hl := congrArg List.length e
            rw [List.length_append, List.length_append, List.length_take] at hl
            simp at hl
            congr 1
            simp
            omega
        | some q =>
          obtain ⟨c, k⟩ := q
          obtain ⟨c256, hk, t, ht⟩ := one_some hr h34 ho
          have hl := one_len hr h34 ho
          rw [qR_step hr h34 ho] at h
          cases hq : qR (r.drop k) with
          | mk a n' =>
            rw [hq] at h
            cases a with
            | some s => cases h
            | none =>
              cases h
              cases N with
              | zero => omega
              | succ N =>
                obtain ⟨i1, i2, x, hx, s, i3⟩ := qR_cut N (r.drop k) (by rw [List.length_drop]; omega) (bytes_drop hr k) n' hq
                rw [List.length_drop] at i1
                have e : r.take (k + n') = formN c ++ (r.drop k).take n' := by
                  rw [List.take_add]
                  congr 1
                  rw [ht, hk, List.take_left]
                have hfl : (formN c).length = k := hk.symm
                have hh34 : ∀ z, (formN c ++ z).head? ≠ some 34 := fun z => by
                  cases hf : formN c with
                  | nil => rw [hf] at hfl; simp at hfl; omega
                  | cons a u => rw [ht, hf] at h34; simpa using h34
                have hb2 := bytes_app (formN_bytes c c256) (bytes_take (bytes_drop hr k) n')
                have hbx : Bytes x := by
                  have : ∀ x ∈ ([[34], [110, 34], [102, 102, 34], [102, 34]] : List (List Nat)), ∀ z ∈ x, z < 256 := by decide
                  exact this x hx
                refine ⟨by omega, ?_, x, hx, c :: s, ?_⟩
                · rw [e, qR_step hb2 (hh34 _) (one_of_form c256 _), List.drop_left, i2, hfl]
                  rfl
                · rw [e, List.append_assoc, qR_step (bytes_app (formN_bytes c c256) (bytes_app (bytes_take (bytes_drop hr k) n') hbx)) (hh34 _) (one_of_form c256 _), List.drop_left, i3, hfl]
                  simp [Nat.add_assoc]
end Go.Proofs.YtpkggobhhieeoaaDoor
