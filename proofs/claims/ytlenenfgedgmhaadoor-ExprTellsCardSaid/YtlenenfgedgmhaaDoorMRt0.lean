/- A right list of nodes is the list of one tree; the tree's text and its tokens, by the tree. A node's text and tokens by its parts', shape by shape. -/
import Derived.Test.YtlenenfgedgmhaaDoorTl3
namespace Go.Proofs.YtlenenfgedgmhaaDoor
set_option linter.unusedSimpArgs false
set_option linter.unusedVariables false

/-- which nodes may be, by their kinds -/
inductive Shape : Nat → List Nat → Int → List Tr → Prop
  | int {n : Int} : n ≠ -9223372036854775808 → Shape 1 [] n []
  | text {s : List Nat} : s.length ≤ 4096 → Shape 2 s 0 []
  | name {s : List Nat} : plainN s = true → Shape 7 s 0 []
  | zero {y : List Nat × Nat × Nat} : y ∈ onesL → y.2.2 = 0 → Shape y.2.1 [] 0 []
  | post {x : List Nat × Nat × Nat} {s : List Nat} {a : Tr} : x ∈ signsL → x.2.2 = 7 → x.2.1 ≠ 11 → plainN s = true → Shape x.2.1 s 0 [a]
  | parent {a : Tr} : Shape 11 [] 0 [a]
  | not_ {a : Tr} : Shape 29 [] 0 [a]
  | one {y : List Nat × Nat × Nat} {a : Tr} : y ∈ onesL → y.2.2 = 1 → Shape y.2.1 [] 0 [a]
  | bin {x : List Nat × Nat × Nat} {a b : Tr} : x ∈ signsL → x.2.2 < 7 → Shape x.2.1 [] 0 [a, b]
  | iff {a b c : Tr} : Shape 30 [] 0 [a, b, c]
  | loop {y : List Nat × Nat × Nat} {s : List Nat} {a b : Tr} : y ∈ onesL → y.2.2 = 2 → plainN s = true → Shape y.2.1 s 0 [a, b]
/-- what a node of a tree holds -/
def Node (k : Nat) (s : List Nat) (n : Int) (ks : List Tr) : Prop := Shape k s n ks ∧ Bytes s ∧ -9223372036854775808 ≤ n ∧ n ≤ 9223372036854775807
mutual
/-- a tree of nodes that may be -/
def Tr.Good : Tr → Prop
  | .node k s n ks => Node k s n ks ∧ GoodL ks
def GoodL : List Tr → Prop
  | [] => True
  | t :: ts => t.Good ∧ GoodL ts
end
theorem plain_len {s : List Nat} (h : plainN s = true) : s.length ≤ 32 := by
  unfold plainN at h
  rw [Bool.and_eq_true] at h
  exact right_len h.1
theorem list0 {α β : Type} {l : List α} {ts : List β} (h : l.length = 0) (e : ts.length = l.length) : ts = [] := List.eq_nil_of_length_eq_zero (by omega)
theorem list1 {β : Type} {ts : List β} (e : ts.length = 1) : ∃ a, ts = [a] := by
  match ts, e with
  | [a], _ => exact ⟨a, rfl⟩
theorem list2 {β : Type} {ts : List β} (e : ts.length = 2) : ∃ a b, ts = [a, b] := by
  match ts, e with
  | [a, b], _ => exact ⟨a, b, rfl⟩
theorem list3 {β : Type} {ts : List β} (e : ts.length = 3) : ∃ a b c, ts = [a, b, c] := by
  match ts, e with
  | [a, b, c], _ => exact ⟨a, b, c, rfl⟩
set_option maxHeartbeats 4000000 in
/-- a node that may be has one of the shapes -/
theorem shape_of {k : Nat} {s : List Nat} {n : Int} {ks : List Int} {ts : List Tr} (hl : ts.length = ks.length) (h : mayE ⟨(k : Int), s, n, ks⟩ = true) : Shape k s n ts := by
  rw [mayE_def, Bool.and_eq_true, Bool.and_eq_true, Bool.and_eq_true, ← hl] at h
  obtain ⟨⟨⟨h1, h2⟩, h3⟩, h4⟩ := h
  have h1 := of_decide_eq_true h1
  have hn : n ≠ -9223372036854775808 := by simpa using h3
  have hk : 1 ≤ k ∧ k ≤ 34 := by
    unfold kidsN at h1
    repeat' split at h1
    all_goals omega
  have hz : k ≠ 1 → n = 0 := by
    intro hk1
    rcases Classical.em (n = 0) with e | e
    · exact e
    · have e1 : ((k : Int) ≠ 1) := by omega
      rw [decide_eq_true e, decide_eq_true e1] at h2
      cases h2
  have nm : ∀ {m : Nat}, (m : Int) ∈ namedL → k = m → plainN s = true := by
    intro m hm e
    subst e
    rw [if_pos hm] at h4
    exact h4
  have un : ∀ {m : Nat}, ¬ ((m : Int) ∈ namedL) → m ≠ 2 → k = m → s = [] := by
    intro m hm h2 e
    subst e
    rw [if_neg hm, decide_eq_false (p := ((k : Int) = 2)) (by omega)] at h4
    simpa using h4
  have hks : ∀ {m : Nat} {c : Nat}, kidsN (m : Int) = (c : Int) → k = m → ts.length = c := by
    intro m c hc e
    subst e
    rw [hc] at h1
    omega
  have hcases : k = 1 ∨ k = 2 ∨ k = 3 ∨ k = 4 ∨ k = 5 ∨ k = 6 ∨ k = 7 ∨ k = 8 ∨ k = 9 ∨ k = 10 ∨ k = 11 ∨ k = 12 ∨ k = 13 ∨ k = 14 ∨ k = 15 ∨ k = 16 ∨ k = 17 ∨ k = 18 ∨ k = 19 ∨ k = 20 ∨ k = 21 ∨ k = 22 ∨ k = 23 ∨ k = 24 ∨ k = 25 ∨ k = 26 ∨ k = 27 ∨ k = 28 ∨ k = 29 ∨ k = 30 ∨ k = 31 ∨ k = 32 ∨ k = 33 ∨ k = 34 := by omega
  have zeroC : ∀ y ∈ onesL, y.2.2 = 0 → ¬ ((y.2.1 : Nat) : Int) ∈ namedL ∧ y.2.1 ≠ 2 ∧ y.2.1 ≠ 1 ∧ kidsN ((y.2.1 : Nat) : Int) = ((0 : Nat) : Int) := by decide
  have oneC : ∀ y ∈ onesL, y.2.2 = 1 → ¬ ((y.2.1 : Nat) : Int) ∈ namedL ∧ y.2.1 ≠ 2 ∧ y.2.1 ≠ 1 ∧ kidsN ((y.2.1 : Nat) : Int) = ((1 : Nat) : Int) := by decide
  have loopC : ∀ y ∈ onesL, y.2.2 = 2 → ((y.2.1 : Nat) : Int) ∈ namedL ∧ y.2.1 ≠ 1 ∧ kidsN ((y.2.1 : Nat) : Int) = ((2 : Nat) : Int) := by decide
  have binC : ∀ x ∈ signsL, x.2.2 < 7 → ¬ ((x.2.1 : Nat) : Int) ∈ namedL ∧ x.2.1 ≠ 2 ∧ x.2.1 ≠ 1 ∧ kidsN ((x.2.1 : Nat) : Int) = ((2 : Nat) : Int) := by decide
  have postC : ∀ x ∈ signsL, x.2.2 = 7 → x.2.1 ≠ 11 → ((x.2.1 : Nat) : Int) ∈ namedL ∧ x.2.1 ≠ 1 ∧ kidsN ((x.2.1 : Nat) : Int) = ((1 : Nat) : Int) := by decide
  have zero : ∀ y ∈ onesL, y.2.2 = 0 → k = y.2.1 → Shape k s n ts := by
    intro y hy h0 e
    obtain ⟨c1, c2, c3, c4⟩ := zeroC y hy h0
    rw [un c1 c2 e, hz (by omega), List.eq_nil_of_length_eq_zero (hks c4 e), e]
    exact .zero hy h0
  have one : ∀ y ∈ onesL, y.2.2 = 1 → k = y.2.1 → Shape k s n ts := by
    intro y hy h0 e
    obtain ⟨c1, c2, c3, c4⟩ := oneC y hy h0
    obtain ⟨a, ha⟩ := list1 (hks c4 e)
    rw [un c1 c2 e, hz (by omega), ha, e]
    exact .one hy h0
  have loop : ∀ y ∈ onesL, y.2.2 = 2 → k = y.2.1 → Shape k s n ts := by
    intro y hy h0 e
    obtain ⟨c1, c2, c3⟩ := loopC y hy h0
    obtain ⟨a, b, ha⟩ := list2 (hks c3 e)
    have hp := nm c1 e
    rw [hz (by omega), ha, e]
    exact .loop hy h0 hp
  have bin : ∀ x ∈ signsL, x.2.2 < 7 → k = x.2.1 → Shape k s n ts := by
    intro x hx h0 e
    obtain ⟨c1, c2, c3, c4⟩ := binC x hx h0
    obtain ⟨a, b, ha⟩ := list2 (hks c4 e)
    rw [un c1 c2 e, hz (by omega), ha, e]
    exact .bin hx h0
  have post : ∀ x ∈ signsL, x.2.2 = 7 → x.2.1 ≠ 11 → k = x.2.1 → Shape k s n ts := by
    intro x hx h0 h11 e
    obtain ⟨c1, c2, c3⟩ := postC x hx h0 h11
    obtain ⟨a, ha⟩ := list1 (hks c3 e)
    have hp := nm c1 e
    rw [hz (by omega), ha, e]
    exact .post hx h0 h11 hp
  have fz : ∀ m ∈ [3, 4, 5, 6], ∃ y ∈ onesL, y.2.2 = 0 ∧ m = y.2.1 := by decide
  have fo : ∀ m ∈ [14, 15, 16, 17, 18, 19], ∃ y ∈ onesL, y.2.2 = 1 ∧ m = y.2.1 := by decide
  have fl : ∀ m ∈ [31, 32, 33, 34], ∃ y ∈ onesL, y.2.2 = 2 ∧ m = y.2.1 := by decide
  have fb : ∀ m ∈ [20, 21, 22, 23, 24, 25, 26, 27, 28], ∃ x ∈ signsL, x.2.2 < 7 ∧ m = x.2.1 := by decide
  have fp : ∀ m ∈ [8, 9, 10, 12, 13], ∃ x ∈ signsL, x.2.2 = 7 ∧ x.2.1 ≠ 11 ∧ m = x.2.1 := by decide
  have hsplit : k = 1 ∨ k = 2 ∨ k = 7 ∨ k = 11 ∨ k = 29 ∨ k = 30 ∨ k ∈ [3, 4, 5, 6] ∨ k ∈ [14, 15, 16, 17, 18, 19] ∨ k ∈ [31, 32, 33, 34] ∨ k ∈ [20, 21, 22, 23, 24, 25, 26, 27, 28] ∨ k ∈ [8, 9, 10, 12, 13] := by
    simp only [List.mem_cons, List.not_mem_nil, or_false]
    omega
  rcases hsplit with e | e | e | e | e | e | e | e | e | e | e
  · have hs : s = [] := un (m := 1) (by decide) (by decide) e
    have ht : ts.length = 0 := hks (m := 1) (c := 0) (by decide) e
    rw [hs, List.eq_nil_of_length_eq_zero ht, e]
    exact .int hn
  · have ht : ts.length = 0 := hks (m := 2) (c := 0) (by decide) e
    rw [hz (by omega), List.eq_nil_of_length_eq_zero ht]
    subst e
    refine .text ?_
    rw [if_neg (by decide)] at h4
    rw [Bool.or_eq_true, Bool.and_eq_true] at h4
    rcases h4 with h4 | h4
    · rw [of_decide_eq_true h4]; simp
    · exact of_decide_eq_true h4.2
  · have ht : ts.length = 0 := hks (m := 7) (c := 0) (by decide) e
    have hp : plainN s = true := nm (m := 7) (by decide) e
    rw [hz (by omega), List.eq_nil_of_length_eq_zero ht, e]
    exact .name hp
  · have hs : s = [] := un (m := 11) (by decide) (by decide) e
    obtain ⟨a, ht⟩ := list1 (hks (m := 11) (c := 1) (by decide) e)
    rw [hs, hz (by omega), ht, e]
    exact .parent
  · have hs : s = [] := un (m := 29) (by decide) (by decide) e
    obtain ⟨a, ht⟩ := list1 (hks (m := 29) (c := 1) (by decide) e)
    rw [hs, hz (by omega), ht, e]
    exact .not_
  · have hs : s = [] := un (m := 30) (by decide) (by decide) e
    obtain ⟨a, b, c, ht⟩ := list3 (hks (m := 30) (c := 3) (by decide) e)
    rw [hs, hz (by omega), ht, e]
    exact .iff
  · obtain ⟨y, h1, h2, h3⟩ := fz k e
    exact zero y h1 h2 h3
  · obtain ⟨y, h1, h2, h3⟩ := fo k e
    exact one y h1 h2 h3
  · obtain ⟨y, h1, h2, h3⟩ := fl k e
    exact loop y h1 h2 h3
  · obtain ⟨y, h1, h2, h3⟩ := fb k e
    exact bin y h1 h2 h3
  · obtain ⟨y, h1, h2, h4, h3⟩ := fp k e
    exact post y h1 h2 h4 h3
/-- and what has one of the shapes may be -/
theorem may_of {k : Nat} {s : List Nat} {n : Int} {ks : List Int} {ts : List Tr} (hl : ts.length = ks.length) (h : Shape k s n ts) : mayE ⟨(k : Int), s, n, ks⟩ = true := by
  rw [mayE_def, ← hl]
  have zeroC : ∀ y ∈ onesL, y.2.2 = 0 → ¬ ((y.2.1 : Nat) : Int) ∈ namedL ∧ kidsN ((y.2.1 : Nat) : Int) = ((0 : Nat) : Int) := by decide
  have oneC : ∀ y ∈ onesL, y.2.2 = 1 → ¬ ((y.2.1 : Nat) : Int) ∈ namedL ∧ kidsN ((y.2.1 : Nat) : Int) = ((1 : Nat) : Int) := by decide
  have loopC : ∀ y ∈ onesL, y.2.2 = 2 → ((y.2.1 : Nat) : Int) ∈ namedL ∧ kidsN ((y.2.1 : Nat) : Int) = ((2 : Nat) : Int) := by decide
  have binC : ∀ x ∈ signsL, x.2.2 < 7 → ¬ ((x.2.1 : Nat) : Int) ∈ namedL ∧ kidsN ((x.2.1 : Nat) : Int) = ((2 : Nat) : Int) := by decide
  have postC : ∀ x ∈ signsL, x.2.2 = 7 → x.2.1 ≠ 11 → ((x.2.1 : Nat) : Int) ∈ namedL ∧ kidsN ((x.2.1 : Nat) : Int) = ((1 : Nat) : Int) := by decide
  cases h with
  | int h => simp [h]; decide
  | text h =>
    rw [if_neg (by decide), decide_eq_true h]
    simp
    decide
  | name h => rw [if_pos (by decide), h]; decide
  | zero hy h0 =>
    obtain ⟨c1, c2⟩ := zeroC _ hy h0
    rw [if_neg c1, c2]
    simp
  | post hx h0 h11 hp =>
    obtain ⟨c1, c2⟩ := postC _ hx h0 h11
    rw [if_pos c1, c2, hp]
    simp
  | parent => rfl
  | not_ => rfl
  | one hy h0 =>
    obtain ⟨c1, c2⟩ := oneC _ hy h0
    rw [if_neg c1, c2]
    simp
  | bin hx h0 =>
    obtain ⟨c1, c2⟩ := binC _ hx h0
    rw [if_neg c1, c2]
    simp
  | iff => rfl
  | loop hy h0 hp =>
    obtain ⟨c1, c2⟩ := loopC _ hy h0
    rw [if_pos c1, c2, hp]
    simp
/-- a node's text, by its parts' texts -/
def bodyG (k : Int) (s : List Nat) (n : Int) (c : Nat) (g : Nat → Nat → List Nat) : List Nat :=
  if k = 1 then showN n
  else if k = 2 then quoteN s
  else if k = 7 then s
  else if levelN k = 7 then g 0 7 ++ (markT k ++ s)
  else if k = 29 then [110, 111, 116, 32] ++ g 0 3
  else if levelN k < 7 then g 0 (if levelN k = 4 then 5 else levelN k) ++ (([32] ++ markT k) ++ [32]) ++ g 1 (levelN k + 1)
  else if k = 30 then [105, 102, 32] ++ g 0 0 ++ [32, 116, 104, 101, 110, 32] ++ g 1 0 ++ [32, 101, 108, 115, 101, 32] ++ g 2 0 ++ [32, 101, 110, 100]
  else if 31 ≤ k then (((wordT k ++ [32]) ++ s) ++ [32, 105, 110, 32]) ++ g 0 0 ++ [58, 32] ++ g 1 0 ++ [32, 101, 110, 100]
  else if c = 1 then (wordT k ++ [40]) ++ g 0 0 ++ [41]
  else wordT k
def kidG (gs : List (Nat → List Nat)) (i t : Nat) : List Nat := match gs[i]? with
  | some g => g t
  | none => []
mutual
/-- a tree's text -/
def tellT : Tr → Nat → List Nat
  | .node k s n ks => fun t => if levelN (k : Int) < t then [40] ++ bodyG k s n ks.length (kidG (tellTL ks)) ++ [41] else bodyG k s n ks.length (kidG (tellTL ks))
def tellTL : List Tr → List (Nat → List Nat)
  | [] => []
  | t :: ts => tellT t :: tellTL ts
end
theorem body_g (g : Nat → Nat → List Nat) (d : ND) : bodyT g d = bodyG d.kind d.text d.num d.kids.length (kidT g d) := rfl
theorem places_len : ∀ (ts : List Tr) (p : Nat), (placesL ts p).length = ts.length
  | [], _ => rfl
  | t :: ts, p => by simp only [placesL, List.length_cons, places_len ts]
/-- the nodes of a tree, as they may come in -/
def ndsT (t : Tr) (p : Nat) : List ND := (t.flat p).map EN.nd
def ndsL (ts : List Tr) (p : Nat) : List ND := (flatL ts p).map EN.nd
theorem nds_len (t : Tr) (p : Nat) : (ndsT t p).length = t.size := by unfold ndsT; rw [List.length_map, trFlat_len]
theorem ndsL_len (t : List Tr) (p : Nat) : (ndsL t p).length = sizeL t := by unfold ndsL; rw [List.length_map, trFlatL_len]
/-- where a tree stands in a list -/
def Stands (l : List ND) (t : Tr) (p : Nat) : Prop := (l.drop p).take t.size = ndsT t p
def StandsL (l : List ND) (ts : List Tr) (p : Nat) : Prop := (l.drop p).take (sizeL ts) = ndsL ts p
theorem StandsL.nil (l : List ND) (p : Nat) : StandsL l [] p := by simp [StandsL, sizeL, ndsL, flatL]
theorem StandsL.cons {l : List ND} {t : Tr} {ts : List Tr} {p : Nat} (h1 : Stands l t p) (h2 : StandsL l ts (p + t.size)) : StandsL l (t :: ts) p := by
  unfold StandsL Stands ndsL ndsT at *
  simp only [sizeL, flatL, List.map_append]
  rw [List.take_add, h1, List.drop_drop, h2]
/-- what the parts' reading gives, as trees -/
theorem metL_tree {l : List ND} {g : Nat → Option (Nat × Nat)} {T : Nat → Nat → List Nat} (hg : ∀ n r, g n = some r → ∃ t : Tr, t.Good ∧ r = (t.deep, n + t.size) ∧ Stands l t n ∧ ∀ m, T n m = tellT t m) :
    ∀ (ks : List Int) (n dp : Nat) (r : Nat × Nat), metL g ks n dp = some r → ∃ ts : List Tr, GoodL ts ∧ r = (max dp (deepL ts), n + sizeL ts) ∧ ks = (placesL ts n).map (fun n : Nat => (n : Int)) ∧ StandsL l ts n ∧ ∀ (d : ND), d.kids = ks → ∀ i m, kidT T d i m = kidG (tellTL ts) i m
  | [], n, dp, r, h => by
    simp only [metL] at h
    injection h with h
    refine ⟨[], trivial, by rw [← h]; simp [deepL, sizeL], rfl, StandsL.nil _ _, fun d hd i m => ?_⟩
    unfold kidT kidG
    rw [hd]
    simp [tellTL]
  | k :: ks, n, dp, r, h => by
    simp only [metL] at h
    split at h
    · rename_i e
      split at h
      · cases h
      · rename_i x hx
        obtain ⟨t, h1, h2, h3, h4⟩ := hg n x hx
        subst h2
        obtain ⟨ts, g1, g2, g3, g4, g5⟩ := metL_tree hg ks _ _ r h
        refine ⟨t :: ts, ⟨h1, g1⟩, ?_, ?_, StandsL.cons h3 g4, fun d hd i m => ?_⟩
        · rw [g2]
          simp only [deepL, sizeL, Prod.mk.injEq]
          constructor <;> omega
        · rw [e, g3]; rfl
        · unfold kidT kidG
          rw [hd]
          cases i with
          | zero =>
            simp only [tellTL, List.getElem?_cons_zero]
            rw [e, Int.toNat_natCast]
            exact h4 m
          | succ i =>
            have := g5 ⟨0, [], 0, ks⟩ rfl i m
            unfold kidT kidG at this
            simp only [tellTL, List.getElem?_cons_succ]
            exact this
    · cases h
theorem kind_nat {d : ND} (h : mayE d = true) : ∃ k : Nat, d.kind = (k : Int) := by
  obtain ⟨k, s, n, ks⟩ := d
  rw [mayE_def, Bool.and_eq_true, Bool.and_eq_true, Bool.and_eq_true] at h
  have h1 := of_decide_eq_true h.1.1.1
  refine ⟨k.toNat, ?_⟩
  simp only
  unfold kidsN at h1
  repeat' split at h1
  all_goals omega
/-- a node and all below it, as a tree -/
theorem metN_tree (l : List ND) (hok : ∀ d ∈ l, NdOk d) : ∀ (f p : Nat) (r : Nat × Nat), metN l f p = some r → ∃ t : Tr, t.Good ∧ r = (t.deep, p + t.size) ∧ Stands l t p ∧ ∀ m, tellN l f p m = tellT t m
  | 0, p, r, h => by simp only [metN] at h; cases h
  | f + 1, p, r, h => by
    simp only [metN] at h
    cases hd : l[p]? with
    | none => rw [hd] at h; cases h
    | some d =>
      rw [hd] at h
      simp only at h
      by_cases hm : mayE d = true
      · rw [if_pos hm] at h
        obtain ⟨x, hx, rfl⟩ := Option.map_eq_some_iff.1 h
        obtain ⟨ts, g1, g2, g3, g4, g5⟩ := metL_tree (l := l) (T := tellN l f) (fun n r hr => metN_tree l hok f n r hr) d.kids (p + 1) 0 x hx
        obtain ⟨k, hk⟩ := kind_nat hm
        have hmem : d ∈ l := List.mem_iff_getElem?.2 ⟨p, hd⟩
        obtain ⟨b1, b2, b3, b4⟩ := hok d hmem
        have g5' := g5 d rfl
        obtain ⟨dk, ds, dn, dks⟩ := d
        simp only at hk g3 b1 b3 b4
        subst hk
        have hlen : ts.length = dks.length := by rw [g3, List.length_map, places_len]
        refine ⟨.node k ds dn ts, ⟨⟨shape_of hlen hm, b1, b3, b4⟩, g1⟩, ?_, ?_, fun m => ?_⟩
        · rw [g2]
          simp only [Tr.deep, Tr.size, Nat.zero_max, Prod.mk.injEq, true_and]
          omega
        · unfold Stands ndsT
          simp only [Tr.size, Tr.flat, List.map_cons]
          have hp := (List.getElem?_eq_some_iff.1 hd).1
          have hpe := (List.getElem?_eq_some_iff.1 hd).2
          rw [List.drop_eq_getElem_cons hp, Nat.add_comm 1, List.take_succ_cons, hpe]
          unfold StandsL ndsL at g4
          rw [g4]
          congr 1
          rw [g3]
          rfl
        · rw [tellN, hd]
          simp only
          rw [body_g]
          simp only
          rw [← hlen, show kidT (tellN l f) ⟨k, ds, dn, dks⟩ = kidG (tellTL ts) from funext fun i => funext fun m => g5' i m]
          simp only [tellT]
      · rw [if_neg hm] at h; cases h
/-- a right list is a tree's -/
theorem right_tree {l : List ND} (hok : ∀ d ∈ l, NdOk d) (h : rightE l = 0) : ∃ t : Tr, t.Good ∧ t.deep ≤ 32 ∧ t.size ≤ 256 ∧ l = ndsT t 0 ∧ ∀ m, tellN l l.length 0 m = tellT t m := by
  obtain ⟨h1, r, h2, h3, h4⟩ := right_met h
  obtain ⟨t, g1, g2, g3, g4⟩ := metN_tree l hok _ _ _ h2
  subst g2
  simp only at h3 h4
  rw [Nat.zero_add] at h3
  refine ⟨t, g1, h4, by omega, ?_, g4⟩
  unfold Stands at g3
  rw [List.drop_zero, List.take_of_length_le (by omega)] at g3
  exact g3
mutual
theorem met_of {l : List ND} : ∀ (t : Tr) (f p : Nat), t.size ≤ f → t.Good → Stands l t p → metN l f p = some (t.deep, p + t.size) ∧ ∀ m, tellN l f p m = tellT t m
  | .node k s n ks, 0, p, hf, _, _ => by simp only [Tr.size] at hf; omega
  | .node k s n ks, f + 1, p, hf, hg, hs => by
    simp only [Tr.size] at hf
    obtain ⟨⟨hsh, hb⟩, hgl⟩ := hg
    have hs' := hs
    unfold Stands ndsT at hs
    simp only [Tr.size, Tr.flat, List.map_cons] at hs
    have h0 : l[p]? = some (EN.nd ⟨k, s, n, placesL ks (p + 1)⟩) := by
      have := congrArg List.head? hs
      rw [Nat.add_comm, List.head?_take, if_neg (by omega), List.head?_drop] at this
      exact this
    have htl : StandsL l ks (p + 1) := by
      have := congrArg (List.drop 1) hs
      rw [List.drop_take, List.drop_drop, Nat.add_sub_cancel_left] at this
      exact this
    have hlen : ks.length = ((placesL ks (p + 1)).map (fun n : Nat => (n : Int))).length := by rw [List.length_map, places_len]
    have hmay := may_of hlen hsh
    obtain ⟨k1, k2⟩ := metL_of ks f (p + 1) 0 (by omega) hgl htl
    refine ⟨?_, fun m => ?_⟩
    · rw [metN, h0]
      simp only
      rw [if_pos (show mayE (EN.nd ⟨k, s, n, placesL ks (p + 1)⟩) = true from hmay)]
      show Option.map _ (metL (metN l f) ((placesL ks (p + 1)).map (fun n : Nat => (n : Int))) (p + 1) 0) = _
      rw [k1]
      simp only [Option.map_some, Tr.deep, Tr.size, Nat.zero_max, Option.some.injEq, Prod.mk.injEq, true_and]
      omega
    · rw [tellN, h0]
      simp only
      rw [body_g]
      have e : kidT (tellN l f) (EN.nd ⟨k, s, n, placesL ks (p + 1)⟩) = kidG (tellTL ks) := funext fun i => funext fun m => k2 (EN.nd ⟨k, s, n, placesL ks (p + 1)⟩) rfl i m
      rw [e]
      show (if levelN (k : Int) < m then [40] ++ bodyG k s n ((placesL ks (p + 1)).map (fun n : Nat => (n : Int))).length (kidG (tellTL ks)) ++ [41] else bodyG k s n ((placesL ks (p + 1)).map (fun n : Nat => (n : Int))).length (kidG (tellTL ks))) = _
      rw [← hlen]
      simp only [tellT]
theorem metL_of {l : List ND} : ∀ (ts : List Tr) (f p dp : Nat), sizeL ts ≤ f → GoodL ts → StandsL l ts p → metL (metN l f) ((placesL ts p).map (fun n : Nat => (n : Int))) p dp = some (max dp (deepL ts), p + sizeL ts) ∧ ∀ (d : ND), d.kids = (placesL ts p).map (fun n : Nat => (n : Int)) → ∀ i m, kidT (tellN l f) d i m = kidG (tellTL ts) i m
  | [], f, p, dp, _, _, _ => by
    refine ⟨by simp [placesL, metL, deepL, sizeL], fun d hd i m => ?_⟩
    unfold kidT kidG
    rw [hd]
    simp [placesL, tellTL]
  | t :: ts, f, p, dp, hf, hg, hs => by
    simp only [sizeL] at hf
    have hs0 := hs
    unfold StandsL ndsL at hs
    simp only [sizeL, flatL, List.map_append] at hs
    rw [List.take_add] at hs
    have hln : ((l.drop p).take t.size).length = ((t.flat p).map EN.nd).length := by
      have := congrArg List.length hs
      simp only [List.length_append, List.length_take, List.length_drop, List.length_map, trFlat_len, trFlatL_len] at this ⊢
      omega
    obtain ⟨e1, e2⟩ := List.append_inj hs hln
    rw [List.drop_drop] at e2
    obtain ⟨k1, k2⟩ := met_of t f p (by omega) hg.1 e1
    obtain ⟨k3, k4⟩ := metL_of ts f (p + t.size) (max dp t.deep) (by omega) hg.2 e2
    refine ⟨?_, fun d hd i m => ?_⟩
    · simp only [placesL, List.map_cons, metL]
      rw [if_pos trivial, k1]
      simp only
      rw [k3]
      simp only [deepL, sizeL, Option.some.injEq, Prod.mk.injEq]
      constructor <;> omega
    · unfold kidT kidG
      rw [hd]
      simp only [placesL, List.map_cons, tellTL]
      cases i with
      | zero =>
        simp only [List.getElem?_cons_zero, Int.toNat_natCast]
        exact k2 m
      | succ i =>
        have := k4 ⟨0, [], 0, (placesL ts (p + t.size)).map (fun n : Nat => (n : Int))⟩ rfl i m
        unfold kidT kidG at this
        simp only [List.getElem?_cons_succ]
        exact this
end
/-- a tree's list is right, if it is neither too long nor too deep -/
theorem right_of {t : Tr} (hg : t.Good) (hs : t.size ≤ 256) (hd : t.deep ≤ 32) : rightE (ndsT t 0) = 0 ∧ ∀ m, tellN (ndsT t 0) (ndsT t 0).length 0 m = tellT t m := by
  have hst : Stands (ndsT t 0) t 0 := by
    unfold Stands
    rw [List.drop_zero, List.take_of_length_le (by rw [nds_len]; exact Nat.le_refl _)]
  obtain ⟨h1, h2⟩ := met_of (l := ndsT t 0) t (ndsT t 0).length 0 (by rw [nds_len]; exact Nat.le_refl _) hg hst
  refine ⟨?_, h2⟩
  unfold rightE
  rw [h1, nds_len, if_neg (by omega)]
  simp only
  rw [if_neg (by omega), if_neg (by omega)]
end Go.Proofs.YtlenenfgedgmhaaDoor
namespace Go.Proofs.YtlenenfgedgmhaaDoor
set_option linter.unusedSimpArgs false
set_option linter.unusedVariables false

/-- a token but for its place -/
abbrev AT := Int × List Nat × Int
/-- a node's tokens, by its parts' -/
def bodyK (k : Int) (s : List Nat) (n : Int) (c : Nat) (g : Nat → Nat → List AT) : List AT :=
  if k = 1 then (if n < 0 then [(5, [45], 0), (1, [], -n)] else [(1, [], n)])
  else if k = 2 then [(2, s, 0)]
  else if k = 7 then [(3, s, 0)]
  else if levelN k = 7 then g 0 7 ++ ([(5, markT k, 0)] ++ (if k = 11 then [] else [(3, s, 0)]))
  else if k = 29 then [(4, notT, 0)] ++ g 0 3
  else if levelN k < 7 then g 0 (if levelN k = 4 then 5 else levelN k) ++ [(if levelN k < 3 then 4 else 5, markT k, 0)] ++ g 1 (levelN k + 1)
  else if k = 30 then [(4, [105, 102], 0)] ++ g 0 0 ++ [(4, thenT, 0)] ++ g 1 0 ++ [(4, elseT, 0)] ++ g 2 0 ++ [(4, endT, 0)]
  else if 31 ≤ k then [(4, wordT k, 0), (3, s, 0), (4, inT, 0)] ++ g 0 0 ++ [(5, colonT, 0)] ++ g 1 0 ++ [(4, endT, 0)]
  else if c = 1 then [(4, wordT k, 0), (5, [40], 0)] ++ g 0 0 ++ [(5, [41], 0)]
  else [(4, wordT k, 0)]
def kidK (gs : List (Nat → List AT)) (i t : Nat) : List AT := match gs[i]? with
  | some g => g t
  | none => []
mutual
/-- a tree's tokens -/
def tkT : Tr → Nat → List AT
  | .node k s n ks => fun t => if levelN (k : Int) < t then [(5, [40], 0)] ++ bodyK k s n ks.length (kidK (tkTL ks)) ++ [(5, [41], 0)] else bodyK k s n ks.length (kidK (tkTL ks))
def tkTL : List Tr → List (Nat → List AT)
  | [] => []
  | t :: ts => tkT t :: tkTL ts
end
/-- what the kinds of the shapes say -/
theorem binF : ∀ x ∈ signsL, x.2.2 < 7 → ((x.2.1 : Nat) : Int) ≠ 1 ∧ ((x.2.1 : Nat) : Int) ≠ 2 ∧ ((x.2.1 : Nat) : Int) ≠ 7 ∧ ((x.2.1 : Nat) : Int) ≠ 29 ∧ levelN ((x.2.1 : Nat) : Int) = x.2.2 ∧ markT ((x.2.1 : Nat) : Int) = x.1 ∧ (x.2.2 < 3 → x.1 ∈ wordsL) ∧ (¬ x.2.2 < 3 → x.1 ∈ marksL ∧ markN (x.1 ++ []) = (x.1, x.1.length)) ∧ 1 ≤ x.2.2 ∧ x.2.2 ≠ 3 := by decide
theorem postF : ∀ x ∈ signsL, x.2.2 = 7 → ((x.2.1 : Nat) : Int) ≠ 1 ∧ ((x.2.1 : Nat) : Int) ≠ 2 ∧ ((x.2.1 : Nat) : Int) ≠ 7 ∧ levelN ((x.2.1 : Nat) : Int) = 7 ∧ markT ((x.2.1 : Nat) : Int) = x.1 ∧ x.1.head? ≠ none ∧ ∀ c ∈ x.1.head?, furtherN c = false := by decide
theorem onesF : ∀ y ∈ onesL, ((y.2.1 : Nat) : Int) ≠ 1 ∧ ((y.2.1 : Nat) : Int) ≠ 2 ∧ ((y.2.1 : Nat) : Int) ≠ 7 ∧ ((y.2.1 : Nat) : Int) ≠ 29 ∧ levelN ((y.2.1 : Nat) : Int) = 8 ∧ wordT ((y.2.1 : Nat) : Int) = y.1 ∧ y.1 ∈ wordsL ∧ (y.2.2 ≠ 3 → ((y.2.1 : Nat) : Int) ≠ 30) ∧ (y.2.2 = 2 → 31 ≤ ((y.2.1 : Nat) : Int)) ∧ (y.2.2 < 2 → ¬ 31 ≤ ((y.2.1 : Nat) : Int)) ∧ oneN y.1 = y.2 ∧ y.2.1 ≠ 0 := by decide
section
variable {k : Nat} {s : List Nat} {n : Int} {c : Nat} {G : Nat → Nat → List Nat} {K : Nat → Nat → List AT}
theorem body_bin {x : List Nat × Nat × Nat} (hx : x ∈ signsL) (h : x.2.2 < 7) : bodyG ((x.2.1 : Nat) : Int) s n c G = G 0 (if x.2.2 = 4 then 5 else x.2.2) ++ (([32] ++ x.1) ++ [32]) ++ G 1 (x.2.2 + 1) ∧ bodyK ((x.2.1 : Nat) : Int) s n c K = K 0 (if x.2.2 = 4 then 5 else x.2.2) ++ [(if x.2.2 < 3 then 4 else 5, x.1, 0)] ++ K 1 (x.2.2 + 1) := by
  obtain ⟨e1, e2, e7, e29, hl, hm, _, _, h1, h3⟩ := binF x hx h
  constructor
  · unfold bodyG
    rw [if_neg e1, if_neg e2, if_neg e7, hl, if_neg (by omega), if_neg e29, if_pos h, hm]
  · unfold bodyK
    rw [if_neg e1, if_neg e2, if_neg e7, hl, if_neg (by omega), if_neg e29, if_pos h, hm]
theorem body_post {x : List Nat × Nat × Nat} (hx : x ∈ signsL) (h : x.2.2 = 7) : bodyG ((x.2.1 : Nat) : Int) s n c G = G 0 7 ++ (x.1 ++ s) ∧ bodyK ((x.2.1 : Nat) : Int) s n c K = K 0 7 ++ ([(5, x.1, 0)] ++ (if ((x.2.1 : Nat) : Int) = 11 then [] else [(3, s, 0)])) := by
  obtain ⟨e1, e2, e7, hl, hm, _⟩ := postF x hx h
  constructor
  · unfold bodyG
    rw [if_neg e1, if_neg e2, if_neg e7, hl, if_pos rfl, hm]
  · unfold bodyK
    rw [if_neg e1, if_neg e2, if_neg e7, hl, if_pos rfl, hm]
theorem body_loop {y : List Nat × Nat × Nat} (hy : y ∈ onesL) (h : y.2.2 = 2) : bodyG ((y.2.1 : Nat) : Int) s n c G = (((y.1 ++ [32]) ++ s) ++ [32, 105, 110, 32]) ++ G 0 0 ++ [58, 32] ++ G 1 0 ++ [32, 101, 110, 100] ∧ bodyK ((y.2.1 : Nat) : Int) s n c K = [(4, y.1, 0), (3, s, 0), (4, inT, 0)] ++ K 0 0 ++ [(5, colonT, 0)] ++ K 1 0 ++ [(4, endT, 0)] := by
  obtain ⟨e1, e2, e7, e29, hl, hm, hw, h30, h31, _⟩ := onesF y hy
  constructor
  · unfold bodyG
    rw [if_neg e1, if_neg e2, if_neg e7, hl, if_neg (by omega), if_neg e29, if_neg (by omega), if_neg (h30 (by omega)), if_pos (h31 h), hm]
  · unfold bodyK
    rw [if_neg e1, if_neg e2, if_neg e7, hl, if_neg (by omega), if_neg e29, if_neg (by omega), if_neg (h30 (by omega)), if_pos (h31 h), hm]
theorem body_one {y : List Nat × Nat × Nat} (hy : y ∈ onesL) (h : y.2.2 = 1) : bodyG ((y.2.1 : Nat) : Int) s n 1 G = (y.1 ++ [40]) ++ G 0 0 ++ [41] ∧ bodyK ((y.2.1 : Nat) : Int) s n 1 K = [(4, y.1, 0), (5, [40], 0)] ++ K 0 0 ++ [(5, [41], 0)] := by
  obtain ⟨e1, e2, e7, e29, hl, hm, hw, h30, _, h31, _⟩ := onesF y hy
  constructor
  · unfold bodyG
    rw [if_neg e1, if_neg e2, if_neg e7, hl, if_neg (by omega), if_neg e29, if_neg (by omega), if_neg (h30 (by omega)), if_neg (h31 (by omega)), if_pos rfl, hm]
  · unfold bodyK
    rw [if_neg e1, if_neg e2, if_neg e7, hl, if_neg (by omega), if_neg e29, if_neg (by omega), if_neg (h30 (by omega)), if_neg (h31 (by omega)), if_pos rfl, hm]
theorem body_zero {y : List Nat × Nat × Nat} (hy : y ∈ onesL) (h : y.2.2 = 0) : bodyG ((y.2.1 : Nat) : Int) s n 0 G = y.1 ∧ bodyK ((y.2.1 : Nat) : Int) s n 0 K = [(4, y.1, 0)] := by
  obtain ⟨e1, e2, e7, e29, hl, hm, hw, h30, _, h31, _⟩ := onesF y hy
  constructor
  · unfold bodyG
    rw [if_neg e1, if_neg e2, if_neg e7, hl, if_neg (by omega), if_neg e29, if_neg (by omega), if_neg (h30 (by omega)), if_neg (h31 (by omega)), if_neg (by omega), hm]
  · unfold bodyK
    rw [if_neg e1, if_neg e2, if_neg e7, hl, if_neg (by omega), if_neg e29, if_neg (by omega), if_neg (h30 (by omega)), if_neg (h31 (by omega)), if_neg (by omega), hm]
theorem body_not : bodyG ((29 : Nat) : Int) s n c G = [110, 111, 116, 32] ++ G 0 3 ∧ bodyK ((29 : Nat) : Int) s n c K = [(4, notT, 0)] ++ K 0 3 := ⟨rfl, rfl⟩
theorem body_if : bodyG ((30 : Nat) : Int) s n c G = [105, 102, 32] ++ G 0 0 ++ [32, 116, 104, 101, 110, 32] ++ G 1 0 ++ [32, 101, 108, 115, 101, 32] ++ G 2 0 ++ [32, 101, 110, 100] ∧ bodyK ((30 : Nat) : Int) s n c K = [(4, [105, 102], 0)] ++ K 0 0 ++ [(4, thenT, 0)] ++ K 1 0 ++ [(4, elseT, 0)] ++ K 2 0 ++ [(4, endT, 0)] := ⟨rfl, rfl⟩
theorem parent_mem : (([94], 11, 7) : List Nat × Nat × Nat) ∈ signsL := by decide
end
end Go.Proofs.YtlenenfgedgmhaaDoor
