/- The grammar of expressions, in plain words (P8.1): what a row of tokens is read as. -/
import Derived.Test.YtlenenfgedgmhaaDoorScanPlain
namespace Go.Proofs.YtlenenfgedgmhaaDoor
set_option linter.unusedSimpArgs false
set_option linter.unusedVariables false

/-- an expression as a tree: its kind, text, number, parts -/
inductive Tr where
  | node (kind : Nat) (text : List Nat) (num : Int) (kids : List Tr)
mutual
def Tr.size : Tr → Nat
  | .node _ _ _ ks => 1 + sizeL ks
def sizeL : List Tr → Nat
  | [] => 0
  | t :: ts => t.size + sizeL ts
end
mutual
def Tr.deep : Tr → Nat
  | .node _ _ _ ks => deepL ks + 1
def deepL : List Tr → Nat
  | [] => 0
  | t :: ts => max t.deep (deepL ts)
end
/-- a node in a list -/
structure EN where
  kind : Nat
  text : List Nat
  num : Int
  kids : List Nat
  deriving DecidableEq
mutual
/-- a tree as a list that begins at a place -/
def Tr.flat : Tr → Nat → List EN
  | .node k s n ks, p => ⟨k, s, n, placesL ks (p + 1)⟩ :: flatL ks (p + 1)
def flatL : List Tr → Nat → List EN
  | [], _ => []
  | t :: ts, p => t.flat p ++ flatL ts (p + t.size)
def placesL : List Tr → Nat → List Nat
  | [], _ => []
  | t :: ts, p => p :: placesL ts (p + t.size)
end
mutual
theorem trFlat_len : ∀ (t : Tr) (p : Nat), (t.flat p).length = t.size
  | .node k s n ks, p => by simp only [Tr.flat, Tr.size, List.length_cons, trFlatL_len ks]; omega
theorem trFlatL_len : ∀ (l : List Tr) (p : Nat), (flatL l p).length = sizeL l
  | [], _ => rfl
  | t :: ts, p => by simp only [flatL, sizeL, List.length_append, trFlat_len t, trFlatL_len ts]
end
theorem size_pos (t : Tr) : 1 ≤ t.size := by cases t; simp only [Tr.size]; omega
/-- what reading comes to: a tree and the next token's number; the number of the token where it stops; 'out': not told -/
inductive PR where
  | ok (t : Tr) (i : Nat)
  | no (i : Nat)
  | out

def orT : List Nat := [111, 114]
def andT : List Nat := [97, 110, 100]
def notT : List Nat := [110, 111, 116]
def openT : List Nat := [40]
def closeT : List Nat := [41]
def minusT : List Nat := [45]
def inT : List Nat := [105, 110]
def colonT : List Nat := [58]
def endT : List Nat := [101, 110, 100]
def thenT : List Nat := [116, 104, 101, 110]
def elseT : List Nat := [101, 108, 115, 101]
/-- marks and words between parts or behind one: text, kind, level -/
def signsL : List (List Nat × Nat × Nat) := [(orT, 28, 1), (andT, 27, 2), ([61, 61], 23, 4), ([33, 61], 24, 4), ([60], 25, 4), ([60, 61], 26, 4), ([43], 20, 5), ([45], 21, 5), ([42], 22, 6), ([46], 8, 7), ([35], 9, 7), ([45, 62], 10, 7), ([94], 11, 7), ([63], 12, 7), ([33, 33], 13, 7)]
/-- words that stand by themselves, take a part in brackets, are loops: text, kind, which -/
def onesL : List (List Nat × Nat × Nat) := [([116, 114, 117, 101], 3, 0), ([102, 97, 108, 115, 101], 4, 0), ([115, 101, 108, 102], 5, 0), ([110, 111, 110, 101], 6, 0), ([115, 105, 122, 101], 14, 1), ([102, 105, 114, 115, 116], 15, 1), ([116, 101, 120, 116], 16, 1), ([99, 111, 110, 99, 101, 112, 116], 17, 1), ([105, 100], 18, 1), ([105, 110, 116], 19, 1), ([97, 110, 121], 31, 2), ([101, 118, 101, 114, 121], 32, 2), ([111, 110, 108, 121], 33, 2), ([115, 117, 109], 34, 2), ([105, 102], 30, 3)]
def oneN (s : List Nat) : Nat × Nat := match onesL.find? (fun x => decide (x.1 = s)) with
  | some x => x.2
  | none => (0, 0)
/-- is the token a mark or a word of that text? -/
def isT (l : List Tok) (i : Nat) (s : List Nat) : Bool := match l[i]? with
  | some t => decide (4 ≤ t.kind) && decide (t.text = s)
  | none => false
/-- the kind of the sign of that level; 0: there is none -/
def signK (l : List Tok) (n i : Nat) : Nat := match signsL.find? (fun x => decide (x.2.2 = n) && isT l i x.1) with
  | some x => x.2.1
  | none => 0
def PR.bind (r : PR) (g : Tr → Nat → PR) : PR := match r with
  | .ok t i => g t i
  | .no i => .no i
  | .out => .out
def want (l : List Tok) (i : Nat) (s : List Nat) (r : PR) : PR := if isT l i s then r else .no i
def nameAt (l : List Tok) (i : Nat) (g : List Nat → PR) : PR := match l[i]? with
  | some t => if t.kind = 3 then g t.text else .no i
  | none => .no i
mutual
/-- what stands at a level -/
def pL (l : List Tok) : Nat → Nat → Nat → PR
  | 0, _, _ => .out
  | f + 1, n, i =>
    if n = 3 then (if isT l i notT then (pL l f 3 (i + 1)).bind fun k j => .ok (.node 29 [] 0 [k]) j else pL l f 4 i)
    else if n = 7 then (pP l f i).bind fun t j => pQ l f t j
    else (pL l f (n + 1) i).bind fun t j => pR l f n t j
/-- signs of a level, and parts, behind one -/
def pR (l : List Tok) : Nat → Nat → Tr → Nat → PR
  | 0, _, _, _ => .out
  | f + 1, n, t, i =>
    if signK l n i = 0 then .ok t i
    else (pL l f (n + 1) (i + 1)).bind fun r j => if n = 4 then .ok (.node (signK l n i) [] 0 [t, r]) j else pR l f n (.node (signK l n i) [] 0 [t, r]) j
/-- what stands behind one -/
def pQ (l : List Tok) : Nat → Tr → Nat → PR
  | 0, _, _ => .out
  | f + 1, t, i =>
    if signK l 7 i = 0 then .ok t i
    else if signK l 7 i = 11 then pQ l f (.node 11 [] 0 [t]) (i + 1)
    else nameAt l (i + 1) fun s => pQ l f (.node (signK l 7 i) s 0 [t]) (i + 2)
/-- what stands by itself -/
def pP (l : List Tok) : Nat → Nat → PR
  | 0, _ => .out
  | f + 1, i => match l[i]? with
    | none => .no i
    | some t =>
      if t.kind = 1 then .ok (.node 1 [] t.num []) (i + 1)
      else if t.kind = 2 then .ok (.node 2 t.text 0 []) (i + 1)
      else if t.kind = 3 then .ok (.node 7 t.text 0 []) (i + 1)
      else if t.kind = 5 then
        (if t.text = minusT then (match l[i + 1]? with
            | some x => if x.kind = 1 then .ok (.node 1 [] (-x.num) []) (i + 2) else .no (i + 1)
            | none => .no (i + 1))
          else if t.text = openT then (pL l f 1 (i + 1)).bind fun k j => want l j closeT (.ok k (j + 1))
          else .no i)
      else match oneN t.text with
        | (0, _) => .no i
        | (k, 0) => .ok (.node k [] 0 []) (i + 1)
        | (k, 1) => want l (i + 1) openT ((pL l f 1 (i + 2)).bind fun a j => want l j closeT (.ok (.node k [] 0 [a]) (j + 1)))
        | (k, 2) => nameAt l (i + 1) fun s => want l (i + 2) inT ((pL l f 1 (i + 3)).bind fun a j => want l j colonT ((pL l f 1 (j + 1)).bind fun b m => want l m endT (.ok (.node k s 0 [a, b]) (m + 1))))
        | (k, _) => (pL l f 1 (i + 1)).bind fun a j => want l j thenT ((pL l f 1 (j + 1)).bind fun b m => want l m elseT ((pL l f 1 (m + 1)).bind fun c q => want l q endT (.ok (.node k [] 0 [a, b, c]) (q + 1))))
end
/-- it is told, within the row; where a tree is read it has no more nodes than tokens were gone over -/
def PR.In (r : PR) (l : List Tok) (i s : Nat) : Prop := match r with
  | .ok t j => i ≤ j ∧ j ≤ l.length ∧ t.size + i ≤ s + j
  | .no j => j ≤ l.length
  | .out => False
theorem isT_lt {l : List Tok} {i : Nat} {s : List Nat} (h : isT l i s = true) : i < l.length := by
  unfold isT at h
  cases hx : l[i]? with
  | none => rw [hx] at h; cases h
  | some t => exact (List.getElem?_eq_some_iff.1 hx).1
theorem signK_lt {l : List Tok} {n i : Nat} (h : signK l n i ≠ 0) : i < l.length := by
  unfold signK at h
  cases hx : signsL.find? (fun x => decide (x.2.2 = n) && isT l i x.1) with
  | none => rw [hx] at h; exact absurd rfl h
  | some x =>
    have := List.find?_some hx
    rw [Bool.and_eq_true] at this
    exact isT_lt this.2
theorem In_bind {r : PR} {l : List Tok} {i s i' s' : Nat} {g : Tr → Nat → PR} (h : r.In l i s) (hg : ∀ t j, i ≤ j → j ≤ l.length → t.size + i ≤ s + j → (g t j).In l i' s') : (r.bind g).In l i' s' := by
  cases r with
  | ok t j => exact hg t j h.1 h.2.1 h.2.2
  | no j => exact h
  | out => exact h
theorem In_want {l : List Tok} {i i' s' : Nat} {s : List Nat} {r : PR} (hi : i ≤ l.length) (h : i < l.length → r.In l i' s') : (want l i s r).In l i' s' := by
  unfold want
  split
  · rename_i hs; exact h (isT_lt hs)
  · exact hi
theorem In_name {l : List Tok} {i i' s' : Nat} {g : List Nat → PR} (hi : i ≤ l.length) (h : i < l.length → ∀ s, (g s).In l i' s') : (nameAt l i g).In l i' s' := by
  unfold nameAt
  cases hx : l[i]? with
  | none => exact hi
  | some t =>
    simp only
    split
    · exact h (List.getElem?_eq_some_iff.1 hx).1 _
    · exact hi
theorem p_told (l : List Tok) : ∀ f : Nat,
    (∀ n i, 1 ≤ n → n ≤ 7 → i ≤ l.length → 12 * (l.length - i) + (11 - n) ≤ f → (pL l f n i).In l (i + 1) 1) ∧
    (∀ n t i, 1 ≤ n → n ≤ 6 → i ≤ l.length → 12 * (l.length - i) + 1 ≤ f → (pR l f n t i).In l i t.size) ∧
    (∀ t i, i ≤ l.length → 12 * (l.length - i) + 1 ≤ f → (pQ l f t i).In l i t.size) ∧
    (∀ i, i ≤ l.length → 12 * (l.length - i) + 2 ≤ f → (pP l f i).In l (i + 1) 1) := by
  intro f
  induction f with
  | zero => exact ⟨fun n i _ _ _ h => by omega, fun n t i _ _ _ h => by omega, fun t i _ h => by omega, fun i _ h => by omega⟩
  | succ f ih =>
    obtain ⟨hL, hR, hQ, hP⟩ := ih
    refine ⟨fun n i h1 h7 hi hf => ?_, fun n t i h1 h6 hi hf => ?_, fun t i hi hf => ?_, fun i hi hf => ?_⟩
    · rw [pL]
      split
      · split
        · rename_i hs
          have := isT_lt hs
          refine In_bind (hL 3 (i + 1) (by omega) (by omega) (by omega) (by omega)) fun t j g1 g2 g3 => ?_
          simp only [PR.In, Tr.size, sizeL]; omega
        · exact hL 4 i (by omega) (by omega) hi (by omega)
      · split
        · refine In_bind (hP i hi (by omega)) fun t j g1 g2 g3 => ?_
          have := hQ t j g2 (by omega)
          revert this
          cases pQ l f t j with
          | ok u k => simp only [PR.In]; omega
          | no k => exact id
          | out => exact id
        · refine In_bind (hL (n + 1) i (by omega) (by omega) hi (by omega)) fun t j g1 g2 g3 => ?_
          have := hR n t j (by omega) (by omega) g2 (by omega)
          revert this
          cases pR l f n t j with
          | ok u k => simp only [PR.In]; omega
          | no k => exact id
          | out => exact id
    · rw [pR]
      split
      · simp only [PR.In]; omega
      · rename_i hs
        have := signK_lt hs
        refine In_bind (hL (n + 1) (i + 1) (by omega) (by omega) (by omega) (by omega)) fun r j g1 g2 g3 => ?_
        split
        · simp only [PR.In, Tr.size, sizeL]; omega
        · have := hR n (.node (signK l n i) [] 0 [t, r]) j (by omega) (by omega) g2 (by omega)
          revert this
          cases pR l f n (.node (signK l n i) [] 0 [t, r]) j with
          | ok u k => simp only [PR.In, Tr.size, sizeL]; omega
          | no k => exact id
          | out => exact id
    · rw [pQ]
      split
      · simp only [PR.In]; omega
      · rename_i hs
        have := signK_lt hs
        split
        · have := hQ (.node 11 [] 0 [t]) (i + 1) (by omega) (by omega)
          revert this
          cases pQ l f (.node 11 [] 0 [t]) (i + 1) with
          | ok u k => simp only [PR.In, Tr.size, sizeL]; omega
          | no k => exact id
          | out => exact id
        · refine In_name (by omega) fun hl s => ?_
          have := hQ (.node (signK l 7 i) s 0 [t]) (i + 2) (by omega) (by omega)
          revert this
          cases pQ l f (.node (signK l 7 i) s 0 [t]) (i + 2) with
          | ok u k => simp only [PR.In, Tr.size, sizeL]; omega
          | no k => exact id
          | out => exact id
    · rw [pP]
      have hL1 : ∀ j, i < j → j ≤ l.length → (pL l f 1 j).In l (j + 1) 1 := fun j h1 h2 => hL 1 j (by omega) (by omega) h2 (by omega)
      cases hx : l[i]? with
      | none => exact hi
      | some t =>
        have hlt := (List.getElem?_eq_some_iff.1 hx).1
        have one : ∀ k s v, (PR.ok (.node k s v []) (i + 1)).In l (i + 1) 1 := fun k s v => by simp only [PR.In, Tr.size, sizeL]; omega
        simp only
        split
        · exact one _ _ _
        split
        · exact one _ _ _
        split
        · exact one _ _ _
        split
        · split
          · cases hy : l[i + 1]? with
            | none => exact hlt
            | some x =>
              have := (List.getElem?_eq_some_iff.1 hy).1
              simp only
              split
              · simp only [PR.In, Tr.size, sizeL]; omega
              · exact hlt
          split
          · refine In_bind (hL1 (i + 1) (by omega) (by omega)) fun k j g1 g2 g3 => In_want g2 fun _ => ?_
            simp only [PR.In]; omega
          · exact hi
        · split
          · exact hi
          · exact one _ _ _
          · refine In_want hlt fun _ => In_bind (hL1 (i + 2) (by omega) (by omega)) fun k j g1 g2 g3 => In_want g2 fun _ => ?_
            simp only [PR.In, Tr.size, sizeL]; omega
          · refine In_name hlt fun _ s => In_want (by omega) fun _ => In_bind (hL1 (i + 3) (by omega) (by omega)) fun a j g1 g2 g3 => In_want g2 fun _ => In_bind (hL1 (j + 1) (by omega) (by omega)) fun b m k1 k2 k3 => In_want k2 fun _ => ?_
            simp only [PR.In, Tr.size, sizeL]; omega
          · refine In_bind (hL1 (i + 1) (by omega) (by omega)) fun a j g1 g2 g3 => In_want g2 fun _ => In_bind (hL1 (j + 1) (by omega) (by omega)) fun b m k1 k2 k3 => In_want k2 fun _ => In_bind (hL1 (m + 1) (by omega) (by omega)) fun c q m1 m2 m3 => In_want m2 fun _ => ?_
            simp only [PR.In, Tr.size, sizeL]; omega
/-- reading a whole row -/
def parseT (l : List Tok) : PR := (pL l (12 * l.length + 10) 1 0).bind fun t i => if i < l.length then .no i else .ok t i
/-- P8.1: the nodes, the place, the error -/
def parseN (s : List Nat) : List EN × Nat × Nat :=
  if (scanN s).2.2 ≠ 0 then ([], (scanN s).2.1, (scanN s).2.2)
  else match parseT (scanN s).1 with
    | .ok t _ => if 256 < t.size ∨ 32 < t.deep then ([], 0, 4) else (t.flat 0, 0, 0)
    | .no i => ([], (match (scanN s).1[i]? with | some x => x.place.toNat | none => s.length), 80)
    | .out => ([], 0, 0)
theorem parse_told (l : List Tok) : (pL l (12 * l.length + 10) 1 0).In l 1 1 := by
  have := (p_told l (12 * l.length + 10)).1 1 0 (by omega) (by omega) (by omega) (by omega)
  simpa using this
end Go.Proofs.YtlenenfgedgmhaaDoor
