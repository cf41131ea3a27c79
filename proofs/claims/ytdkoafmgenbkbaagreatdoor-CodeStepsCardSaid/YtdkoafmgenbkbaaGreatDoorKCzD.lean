/- - -/
import Derived.Test.YtdkoafmgenbkbaaGreatDoorKLETw8
import Derived.Test.YtdkoafmgenbkbaaGreatDoorKM9
import Derived.Test.YtdkoafmgenbkbaaGreatDoorKCzC
set_option maxRecDepth 100000
set_option maxHeartbeats 32000000
set_option linter.unusedSimpArgs false
set_option linter.unusedVariables false
namespace Go.Proofs.YtdkoafmgenbkbaaGreatDoor
open Go.RowKit
theorem cR_len : ∀ (f : Nat) (t : Tr) (vs : List (List Nat)) (m : Int), t.Good → t.deep ≤ f → (cR f t vs m).length ≤ 4 * t.size
  | 0, .node k s n ks, vs, m, hg, hd => by simp only [Tr.deep] at hd; omega
  | f + 1, .node k s n ks, vs, m, hg, hd => by
    have hd1 := deep_one hd
    rcases shape_cases hg.1.1 with ⟨rfl, h1, h2⟩ | ⟨x, rfl, h1⟩ | ⟨x, y, rfl, h1⟩ | ⟨x, y, z, rfl, h1⟩
    · simp [cR, Tr.size, sizeL]
    · simp only [deepL] at hd1
      have := cR_len f x vs (m + 1) hg.2.1 (by omega)
      simp only [cR, List.length_append, List.length_cons, List.length_nil, Tr.size, sizeL]
      omega
    · simp only [deepL] at hd1
      have := cR_len f x vs (m + 1) hg.2.1 (by omega)
      have h3 := cR_len f y vs 1 hg.2.2.1 (by omega)
      have h4 := cR_len f y (vs ++ [s]) 1 hg.2.2.1 (by omega)
      simp only [cR, Tr.size, sizeL]
      split
      · simp only [List.length_append, List.length_cons, List.length_nil, thenN_len]; omega
      · split
        · simp only [List.length_append, List.length_cons, List.length_nil, thenN_len]; omega
        · simp only [List.length_append, List.length_cons, List.length_nil, thenN_len]; omega
    · simp only [deepL] at hd1
      have := cR_len f x vs (m + 1) hg.2.1 (by omega)
      have h3 := cR_len f y vs 1 hg.2.2.1 (by omega)
      have h4 := cR_len f z vs 1 hg.2.2.2.1 (by omega)
      simp only [cR, List.length_append, List.length_cons, List.length_nil, Tr.size, sizeL, thenN_len]
      omega
theorem code_right {t : Tr} (hg : t.Good) (hd : t.deep ≤ 32) (hs : t.size ≤ 256) : rightC (cR 32 t [] 1) = (0, 0) := by
  have hl := cR_len 32 t [] 1 hg hd
  have hp := cR_pos 32 t [] 1 hg hd
  obtain ⟨c, hc⟩ : ∃ c, cR 32 t [] 1 = c := ⟨_, rfl⟩
  have hrun := run_code 32 t [] 1 hg hd (by omega) c 0 (startN c.length) 0 []
  rw [hc] at hrun hl hp ⊢
  have e0 : c.map (onI 0) = c := by
    conv => rhs; rw [← List.map_id c]
    exact List.map_congr_left fun x _ => by unfold onI; split <;> simp
  obtain ⟨l', r⟩ := hrun (by rw [e0]; intro j x hx; rw [Nat.zero_add]; exact hx) ⟨start_len _, rfl, fun j h1 h2 => by
      cases j with
      | zero => omega
      | succ j =>
        unfold startN
        rw [List.getElem?_cons_succ, List.getElem?_replicate, if_pos (by omega)], .inl (by
      obtain ⟨q, hq⟩ : ∃ q, 0 + c.length = q + 1 := ⟨c.length - 1, by omega⟩
      rw [hq]
      unfold startN
      rw [List.getElem?_cons_succ, List.getElem?_replicate, if_pos (by omega)])⟩ rfl (by decide)
  unfold rightC
  rw [if_neg (by omega)]
  have h1 := r.go 0
  rw [Nat.add_zero] at h1
  rw [h1]
  have h2 := r.at_
  simp only [Nat.zero_add] at h2 ⊢
  simp only [goN, endN, h2]
  simp
def stepsN : List Ins → Int
  | [] => 0
  | x :: r => (if x.op = 1 then x.arg else 0) + stepsN r
def nextsN : List Ins → Nat
  | [] => 0
  | x :: r => (if x.op = 39 then 1 else 0) + nextsN r
theorem steps_app (a b : List Ins) : stepsN (a ++ b) = stepsN a + stepsN b := by
  induction a with
  | nil => simp [stepsN]
  | cons x a ih => simp only [List.cons_append, stepsN, ih]; omega
theorem nexts_app (a b : List Ins) : nextsN (a ++ b) = nextsN a + nextsN b := by
  induction a with
  | nil => simp [nextsN]
  | cons x a ih => simp only [List.cons_append, nextsN, ih]; omega
theorem steps_map (n : Nat) (a : List Ins) : stepsN (a.map (onI n)) = stepsN a := by
  induction a with
  | nil => rfl
  | cons x a ih =>
    simp only [List.map_cons, stepsN, ih, onI_op]
    by_cases h : x.op = 1
    · rw [if_pos h, if_pos h, onI_none (by rw [h]; decide)]
    · rw [if_neg h, if_neg h]
theorem nexts_map (n : Nat) (a : List Ins) : nextsN (a.map (onI n)) = nextsN a := by
  induction a with
  | nil => rfl
  | cons x a ih => simp only [List.map_cons, nextsN, ih, onI_op]
mutual
def lpT : Tr → Nat
  | .node k _ _ ks => (if 31 ≤ k ∧ k ≤ 34 then 1 else 0) + lpL ks
def lpL : List Tr → Nat
  | [] => 0
  | t :: ts => lpT t + lpL ts
end
def NoSS (c : List Ins) : Prop := ∀ (i : Nat) (x : Ins), c[i]? = some x → x.op = 1 → ∃ y, c[i + 1]? = some y ∧ y.op ≠ 1
theorem NoSS.app {a b : List Ins} (ha : NoSS a) (hb : NoSS b) : NoSS (a ++ b) := by
  intro i x hx h1
  rcases Nat.lt_or_ge i a.length with h | h
  · rw [List.getElem?_append_left h] at hx
    obtain ⟨y, h2, h3⟩ := ha i x hx h1
    have := (List.getElem?_eq_some_iff.1 h2).1
    exact ⟨y, by rw [List.getElem?_append_left this]; exact h2, h3⟩
  · rw [List.getElem?_append_right h] at hx
    obtain ⟨y, h2, h3⟩ := hb _ x hx h1
    refine ⟨y, ?_, h3⟩
    rw [List.getElem?_append_right (by omega), ← h2]
    congr 1
    omega
theorem NoSS.map {a : List Ins} (ha : NoSS a) (n : Nat) : NoSS (a.map (onI n)) := by
  intro i x hx h1
  rw [List.getElem?_map] at hx
  obtain ⟨x0, h2, rfl⟩ := Option.map_eq_some_iff.1 hx
  obtain ⟨y, h3, h4⟩ := ha i x0 h2 (by rw [← onI_op n]; exact h1)
  exact ⟨onI n y, by rw [List.getElem?_map, h3]; rfl, by rw [onI_op]; exact h4⟩
theorem NoSS.one {x : Ins} (h : x.op ≠ 1) : NoSS [x] := by
  intro i y hy h1
  cases i with
  | zero => simp at hy; subst hy; exact absurd h1 h
  | succ i => simp at hy
theorem NoSS.two {x y : Ins} (h : y.op ≠ 1) : NoSS [x, y] := by
  intro i z hz h1
  match i with
  | 0 => exact ⟨y, rfl, h⟩
  | 1 => simp at hz; subst hz; exact absurd h1 h
  | i + 2 => simp at hz
theorem NoSS.both {x y : Ins} (h1 : x.op ≠ 1) (h2 : y.op ≠ 1) : NoSS [x, y] := NoSS.app (a := [x]) (b := [y]) (NoSS.one h1) (NoSS.one h2)
theorem cR_counts : ∀ (f : Nat) (t : Tr) (vs : List (List Nat)) (m : Int), t.Good → t.deep ≤ f → stepsN (cR f t vs m) = m - 1 + t.size ∧ nextsN (cR f t vs m) = lpT t ∧ NoSS (cR f t vs m)
  | 0, .node k s n ks, vs, m, hg, hd => by simp only [Tr.deep] at hd; omega
  | f + 1, .node k s n ks, vs, m, hg, hd => by
    have hd1 := deep_one hd
    rcases shape_cases hg.1.1 with ⟨rfl, h1, h2⟩ | ⟨x, rfl, h1⟩ | ⟨x, y, rfl, h1⟩ | ⟨x, y, z, rfl, h1⟩
    · have h3 := (leaf_op (s := s) (n := n) (vs := vs) h1 h2).1
      have h4 : (leafI k s n vs).op ≠ 39 := by
        have := (plain_leaf (vs := vs) (n := n) hg.1.1 hg.1.2.1).2.2.1
        omega
      refine ⟨?_, ?_, NoSS.two h3⟩
      · simp only [cR, stepsN, if_neg h3, insI, if_true, Tr.size, sizeL]; omega
      · have h5 : ¬ ((insI 1 m).op = 39) := by show ¬ ((1 : Int) = 39); decide
        simp only [cR, nextsN, if_neg h4, if_neg h5, lpT, lpL]
        rw [if_neg (by omega)]
    · simp only [deepL] at hd1
      obtain ⟨q1, q2, q3⟩ := cR_counts f x vs (m + 1) hg.2.1 (by omega)
      have h3 := (sameN_has (k := k) (by omega) (by omega) (by omega)).1
      have h4 : sameN k ≠ 39 := by
        have := (plain_un hg.1.1 hg.1.2.1).2
        omega
      refine ⟨?_, ?_, NoSS.app q3 (NoSS.one h3)⟩
      · simp only [cR, steps_app, q1, stepsN, if_neg h3, Tr.size, sizeL]; omega
      · simp only [cR, nexts_app, q2, nextsN, if_neg h4, lpT, lpL]
        rw [if_neg (by omega)]; omega
    · simp only [deepL] at hd1
      obtain ⟨q1, q2, q3⟩ := cR_counts f x vs (m + 1) hg.2.1 (by omega)
      obtain ⟨y1, y2, y3⟩ := cR_counts f y vs 1 hg.2.2.1 (by omega)
      obtain ⟨z1, z2, z3⟩ := cR_counts f y (vs ++ [s]) 1 hg.2.2.1 (by omega)
      by_cases c1 : k = 27 ∨ k = 28
      · have o1 : ∀ a, (insI ((k : Int) + 3) a).op ≠ 1 := fun a => by show (k : Int) + 3 ≠ 1; omega
        have o2 : ∀ a, (insI ((k : Int) + 3) a).op ≠ 39 := fun a => by show (k : Int) + 3 ≠ 39; omega
        have o3 : (insI 32 0).op ≠ 1 := by decide
        have o4 : (insI 32 0).op ≠ 39 := by decide
        simp only [cR, if_pos c1, thenN]
        refine ⟨?_, ?_, NoSS.app (NoSS.app (NoSS.app q3 (NoSS.one (o1 _))) (y3.map _)) (NoSS.one o3)⟩
        · simp only [steps_app, steps_map, q1, y1, stepsN, if_neg (o1 _), if_neg o3, Tr.size, sizeL]; omega
        · simp only [nexts_app, nexts_map, q2, y2, nextsN, if_neg (o2 _), if_neg o4, lpT, lpL]
          rw [if_neg (by omega)]; omega
      · by_cases c2 : 31 ≤ k ∧ k ≤ 34
        · have o1 : ∀ a, (insI ((k : Int) + 4) a).op ≠ 1 := fun a => by show (k : Int) + 4 ≠ 1; omega
          have o2 : ∀ a, (insI ((k : Int) + 4) a).op ≠ 39 := fun a => by show (k : Int) + 4 ≠ 39; omega
          have o3 : ∀ a, (insI 39 a).op ≠ 1 := fun a => by show (39 : Int) ≠ 1; decide
          have o4 : ∀ a, (insI 40 a).op ≠ 1 := fun a => by show (40 : Int) ≠ 1; decide
          have o5 : ∀ a, (insI 39 a).op = 39 := fun a => rfl
          have o6 : ∀ a, (insI 40 a).op ≠ 39 := fun a => by show (40 : Int) ≠ 39; decide
          simp only [cR, if_neg c1, if_pos c2, thenN]
          refine ⟨?_, ?_, NoSS.app (NoSS.app (NoSS.app q3 (NoSS.both (o1 _) (o3 _))) (z3.map _)) (NoSS.one (o4 _))⟩
          · simp only [steps_app, steps_map, q1, z1, stepsN, if_neg (o1 _), if_neg (o3 _), if_neg (o4 _), Tr.size, sizeL]; omega
          · simp only [nexts_app, nexts_map, q2, z2, nextsN, if_neg (o2 _), if_pos (o5 _), if_neg (o6 _), lpT, lpL]
            rw [if_pos c2]; omega
        · have h3 := (sameN_has (k := k) (by omega) (by omega) (by omega)).1
          have h4 : sameN k ≠ 39 := by
            have := (plain_bin hg.1.1 (by omega)).2
            omega
          simp only [cR, if_neg c1, if_neg c2, thenN]
          refine ⟨?_, ?_, NoSS.app (NoSS.app q3 (y3.map _)) (NoSS.one h3)⟩
          · simp only [steps_app, steps_map, q1, y1, stepsN, if_neg h3, Tr.size, sizeL]; omega
          · simp only [nexts_app, nexts_map, q2, y2, nextsN, if_neg h4, lpT, lpL]
            rw [if_neg c2]; omega
    · simp only [deepL] at hd1
      obtain ⟨q1, q2, q3⟩ := cR_counts f x vs (m + 1) hg.2.1 (by omega)
      obtain ⟨y1, y2, y3⟩ := cR_counts f y vs 1 hg.2.2.1 (by omega)
      obtain ⟨z1, z2, z3⟩ := cR_counts f z vs 1 hg.2.2.2.1 (by omega)
      have o1 : ∀ a, (insI 33 a).op ≠ 1 := fun a => by show (33 : Int) ≠ 1; decide
      have o2 : ∀ a, (insI 33 a).op ≠ 39 := fun a => by show (33 : Int) ≠ 39; decide
      have o3 : ∀ a, (insI 34 a).op ≠ 1 := fun a => by show (34 : Int) ≠ 1; decide
      have o4 : ∀ a, (insI 34 a).op ≠ 39 := fun a => by show (34 : Int) ≠ 39; decide
      simp only [cR, thenN]
      refine ⟨?_, ?_, NoSS.app (NoSS.app (NoSS.app (NoSS.app q3 (NoSS.one (o1 _))) (y3.map _)) (NoSS.one (o3 _))) (z3.map _)⟩
      · simp only [steps_app, steps_map, q1, y1, z1, stepsN, if_neg (o1 _), if_neg (o3 _), Tr.size, sizeL]; omega
      · simp only [nexts_app, nexts_map, q2, y2, z2, nextsN, if_neg (o2 _), if_neg (o4 _), lpT, lpL]
        rw [if_neg (by omega)]; omega
def isLp (d : ND) : Bool := decide (31 ≤ d.kind) && decide (d.kind ≤ 34)
def lpsN (l : List ND) : Nat := (l.filter isLp).length
theorem lps_app (a b : List ND) : lpsN (a ++ b) = lpsN a + lpsN b := by simp [lpsN]
mutual
theorem lp_nds : ∀ (t : Tr) (p : Nat), lpsN (ndsT t p) = lpT t
  | .node k s n ks, p => by
    rw [ndsT_node]
    have h := lp_ndsL ks (p + 1)
    unfold lpsN at h ⊢
    rw [List.filter_cons]
    simp only [isLp, lpT]
    by_cases c : 31 ≤ k ∧ k ≤ 34
    · have e : (decide (31 ≤ (k : Int)) && decide ((k : Int) ≤ 34)) = true := by simp; omega
      simp only [e, if_true, List.length_cons, if_pos c, isLp] at h ⊢
      omega
    · have e : (decide (31 ≤ (k : Int)) && decide ((k : Int) ≤ 34)) = false := by simp; omega
      simp only [e, if_neg c] at h ⊢
      simp at h ⊢
      omega
theorem lp_ndsL : ∀ (ts : List Tr) (p : Nat), lpsN (ndsL ts p) = lpL ts
  | [], p => by simp [ndsL, flatL, lpsN, lpL]
  | t :: ts, p => by rw [ndsL_cons, lps_app, lp_nds t p, lp_ndsL ts]; simp [lpL]
end
theorem code_steps {t : Tr} (hg : t.Good) (hd : t.deep ≤ 32) : stepsN (cR 32 t [] 1) = t.size ∧ nextsN (cR 32 t [] 1) = lpsN (ndsT t 0) ∧ NoSS (cR 32 t [] 1) := by
  obtain ⟨h1, h2, h3⟩ := cR_counts 32 t [] 1 hg hd
  exact ⟨by rw [h1]; omega, by rw [h2, lp_nds], h3⟩
def StepsPos (c : List Ins) : Prop := ∀ x ∈ c, x.op = 1 → 1 ≤ x.arg
theorem StepsPos.app {a b : List Ins} (ha : StepsPos a) (hb : StepsPos b) : StepsPos (a ++ b) := by
  intro x hx h1
  rcases List.mem_append.1 hx with h | h
  · exact ha x h h1
  · exact hb x h h1
theorem StepsPos.map {a : List Ins} (ha : StepsPos a) (n : Nat) : StepsPos (a.map (onI n)) := by
  intro x hx h1
  obtain ⟨y, hy, rfl⟩ := List.mem_map.1 hx
  rw [onI_op] at h1
  rw [onI_none (by rw [h1]; decide)]
  exact ha y hy h1
theorem StepsPos.one {x : Ins} (h : x.op ≠ 1) : StepsPos [x] := by
  intro y hy h1
  simp at hy
  subst hy
  exact absurd h1 h
theorem StepsPos.two {x y : Ins} (hx : x.op ≠ 1) (h : y.op ≠ 1) : StepsPos [x, y] := StepsPos.app (a := [x]) (b := [y]) (StepsPos.one hx) (StepsPos.one h)
theorem cR_pos_steps : ∀ (f : Nat) (t : Tr) (vs : List (List Nat)) (m : Int), t.Good → t.deep ≤ f → 1 ≤ m → StepsPos (cR f t vs m)
  | 0, .node k s n ks, vs, m, hg, hd, hm => by simp only [Tr.deep] at hd; omega
  | f + 1, .node k s n ks, vs, m, hg, hd, hm => by
    have hd1 := deep_one hd
    rcases shape_cases hg.1.1 with ⟨rfl, h1, h2⟩ | ⟨x, rfl, h1⟩ | ⟨x, y, rfl, h1⟩ | ⟨x, y, z, rfl, h1⟩
    · have h3 := (leaf_op (s := s) (n := n) (vs := vs) h1 h2).1
      have e1 : StepsPos [insI 1 m] := by
        intro y hy _
        simp at hy
        subst hy
        exact hm
      exact StepsPos.app (a := [insI 1 m]) (b := [leafI k s n vs]) e1 (StepsPos.one h3)
    · simp only [deepL] at hd1
      have q := cR_pos_steps f x vs (m + 1) hg.2.1 (by omega) (by omega)
      exact q.app (StepsPos.one (sameN_has (k := k) (by omega) (by omega) (by omega)).1)
    · simp only [deepL] at hd1
      have q := cR_pos_steps f x vs (m + 1) hg.2.1 (by omega) (by omega)
      have q2 := cR_pos_steps f y vs 1 hg.2.2.1 (by omega) (by omega)
      have q3 := cR_pos_steps f y (vs ++ [s]) 1 hg.2.2.1 (by omega) (by omega)
      by_cases c1 : k = 27 ∨ k = 28
      · simp only [cR, if_pos c1, thenN]
        exact ((q.app (StepsPos.one (by show (k : Int) + 3 ≠ 1; omega))).app (q2.map _)).app (StepsPos.one (by decide))
      · by_cases c2 : 31 ≤ k ∧ k ≤ 34
        · simp only [cR, if_neg c1, if_pos c2, thenN]
          exact ((q.app (StepsPos.two (by show (k : Int) + 4 ≠ 1; omega) (by show (39 : Int) ≠ 1; decide))).app (q3.map _)).app (StepsPos.one (by show (40 : Int) ≠ 1; decide))
        · simp only [cR, if_neg c1, if_neg c2, thenN]
          exact (q.app (q2.map _)).app (StepsPos.one (sameN_has (k := k) (by omega) (by omega) (by omega)).1)
    · simp only [deepL] at hd1
      have q := cR_pos_steps f x vs (m + 1) hg.2.1 (by omega) (by omega)
      have q2 := cR_pos_steps f y vs 1 hg.2.2.1 (by omega) (by omega)
      have q3 := cR_pos_steps f z vs 1 hg.2.2.2.1 (by omega) (by omega)
      simp only [cR, thenN]
      exact (((q.app (StepsPos.one (by show (33 : Int) ≠ 1; decide))).app (q2.map _)).app (StepsPos.one (by show (34 : Int) ≠ 1; decide))).app (q3.map _)
theorem steps_nonneg : ∀ {c : List Ins}, StepsPos c → 0 ≤ stepsN c
  | [], _ => by simp [stepsN]
  | x :: c, h => by
    have h1 := steps_nonneg (c := c) (fun y hy => h y (by simp [hy]))
    simp only [stepsN]
    split
    · next e => have := h x (by simp) e; omega
    · omega
theorem steps_take {c : List Ins} (h : StepsPos c) (i : Nat) : 0 ≤ stepsN (c.take i) ∧ stepsN (c.take i) ≤ stepsN c := by
  have e : stepsN c = stepsN (c.take i) + stepsN (c.drop i) := by rw [← steps_app, List.take_append_drop]
  have h1 := steps_nonneg (c := c.take i) (fun y hy => h y (List.mem_of_mem_take hy))
  have h2 := steps_nonneg (c := c.drop i) (fun y hy => h y (List.mem_of_mem_drop hy))
  omega
theorem steps_snoc {c : List Ins} {i : Nat} {x : Ins} (h : c[i]? = some x) : stepsN (c.take (i + 1)) = stepsN (c.take i) + (if x.op = 1 then x.arg else 0) ∧ nextsN (c.take (i + 1)) = nextsN (c.take i) + (if x.op = 39 then 1 else 0) := by
  rw [List.take_add_one, h, Option.toList_some, steps_app, nexts_app]
  simp [stepsN, nextsN]
theorem nexts_le : ∀ c : List Ins, nextsN c ≤ c.length
  | [] => by simp [nextsN]
  | x :: c => by
    have := nexts_le c
    simp only [nextsN, List.length_cons]
    split <;> omega
theorem lps_snoc {l : List ND} {i : Nat} {d : ND} (h : l[i]? = some d) : lpsN (l.take (i + 1)) = lpsN (l.take i) + (if 31 ≤ d.kind ∧ d.kind ≤ 34 then 1 else 0) := by
  rw [List.take_add_one, h, Option.toList_some, lps_app]
  congr 1
  unfold lpsN isLp
  rw [List.filter_cons]
  by_cases c1 : 31 ≤ d.kind ∧ d.kind ≤ 34
  · rw [if_pos c1, if_pos (by simp; omega)]; rfl
  · rw [if_neg c1, if_neg (by simp; omega)]; rfl
theorem lps_le (l : List ND) : lpsN l ≤ l.length := by unfold lpsN; exact List.length_filter_le _ _
end Go.Proofs.YtdkoafmgenbkbaaGreatDoor
