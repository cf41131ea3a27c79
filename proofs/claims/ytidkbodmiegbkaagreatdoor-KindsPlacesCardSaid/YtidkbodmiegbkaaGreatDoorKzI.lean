/- Chapter 09, plain words, outright: another expression in the place of a part. -/
import Derived.Test.YtidkbodmiegbkaaGreatDoorKzG
namespace Go.Proofs.YtidkbodmiegbkaaGreatDoor
set_option linter.unusedSimpArgs false
set_option linter.unusedVariables false
open Go.RowKit

mutual
/-- another tree in the place of a part -/
def repT : Tr → Nat → Tr → Tr
  | .node _ _ _ _, 0, v => v
  | .node k s n ks, i + 1, v => .node k s n (repL ks i v)
def repL : List Tr → Nat → Tr → List Tr
  | [], _, _ => []
  | t :: ts, i, v => if i < t.size then repT t i v :: ts else t :: repL ts (i - t.size) v
end
theorem repL_len : ∀ (ts : List Tr) (i : Nat) (v : Tr), (repL ts i v).length = ts.length
  | [], _, _ => rfl
  | t :: ts, i, v => by simp only [repL]; split <;> simp [repL_len ts]
/-- which of the parts it is -/
theorem repL_at : ∀ {ts : List Tr} {i : Nat} {u v : Tr}, subL ts i = some u → ∃ j t, ts[j]? = some t ∧ sizeL (ts.take j) ≤ i ∧ i < sizeL (ts.take j) + t.size ∧ subT t (i - sizeL (ts.take j)) = some u ∧ repL ts i v = ts.set j (repT t (i - sizeL (ts.take j)) v)
  | [], i, u, v, h => by simp [subL] at h
  | t :: ts, i, u, v, h => by
    simp only [subL] at h
    by_cases hi : i < t.size
    · rw [if_pos hi] at h
      exact ⟨0, t, rfl, by simp [sizeL], by simp [sizeL]; omega, by simpa [sizeL] using h, by simp [repL, hi, sizeL]⟩
    · rw [if_neg hi] at h
      obtain ⟨j, t', h1, h2, h3, h4, h5⟩ := repL_at (v := v) h
      refine ⟨j + 1, t', h1, ?_, ?_, ?_, ?_⟩
      · simp only [List.take_succ_cons, sizeL]; omega
      · simp only [List.take_succ_cons, sizeL]; omega
      · simp only [List.take_succ_cons, sizeL]
        rw [show i - (t.size + sizeL (ts.take j)) = i - t.size - sizeL (ts.take j) by omega]
        exact h4
      · simp only [repL, if_neg hi, List.take_succ_cons, sizeL, List.set_cons_succ]
        rw [h5, show i - (t.size + sizeL (ts.take j)) = i - t.size - sizeL (ts.take j) by omega]
mutual
theorem rep_good : ∀ (t : Tr) (i : Nat) (v : Tr), t.Good → v.Good → (repT t i v).Good
  | .node k s n ks, 0, v, hg, hv => hv
  | .node k s n ks, i + 1, v, hg, hv => by
    refine ⟨⟨?_, hg.1.2⟩, repL_good ks i v hg.2 hv⟩
    have hm := may_of (ks := ks.map fun _ => 0) (by simp) hg.1.1
    exact shape_of (by simp [repL_len]) hm
theorem repL_good : ∀ (ts : List Tr) (i : Nat) (v : Tr), GoodL ts → v.Good → GoodL (repL ts i v)
  | [], i, v, hg, hv => trivial
  | t :: ts, i, v, hg, hv => by
    simp only [repL]
    split
    · exact ⟨rep_good t i v hg.1 hv, hg.2⟩
    · exact ⟨hg.1, repL_good ts _ v hg.2 hv⟩
end
mutual
theorem rep_size : ∀ (t : Tr) (i : Nat) (u v : Tr), subT t i = some u → (repT t i v).size + u.size = t.size + v.size
  | .node k s n ks, 0, u, v, h => by simp only [subT] at h; injection h with h; subst h; simp only [repT]; omega
  | .node k s n ks, i + 1, u, v, h => by
    simp only [subT] at h
    have := repL_size ks i u v h
    simp only [repT, Tr.size]
    omega
theorem repL_size : ∀ (ts : List Tr) (i : Nat) (u v : Tr), subL ts i = some u → sizeL (repL ts i v) + u.size = sizeL ts + v.size
  | [], i, u, v, h => by simp [subL] at h
  | t :: ts, i, u, v, h => by
    simp only [subL] at h
    simp only [repL]
    split
    · next hi =>
      rw [if_pos hi] at h
      have := rep_size t i u v h
      simp only [sizeL]
      omega
    · next hi =>
      rw [if_neg hi] at h
      have := repL_size ts (i - t.size) u v h
      simp only [sizeL]
      omega
end
/-- a node whose parts from a place on stand so much farther on -/
def shD (fr m : Int) (d : ND) : ND := ⟨d.kind, d.text, d.num, d.kids.map fun x => if fr ≤ x then x + m else x⟩
theorem sh_low {fr m : Int} : ∀ (L : List ND), (∀ d ∈ L, ∀ x ∈ d.kids, x < fr) → L.map (shD fr m) = L
  | [], _ => rfl
  | d :: L, h => by
    simp only [List.map_cons]
    rw [sh_low L (fun d hd => h d (by simp [hd]))]
    congr 1
    unfold shD
    have : d.kids.map (fun x => if fr ≤ x then x + m else x) = d.kids := by
      have : ∀ K : List Int, (∀ x ∈ K, x < fr) → K.map (fun x => if fr ≤ x then x + m else x) = K := by
        intro K
        induction K with
        | nil => intro _; rfl
        | cons x K ih =>
          intro hK
          simp only [List.map_cons]
          rw [ih (fun y hy => hK y (by simp [hy])), if_neg (by have := hK x (by simp); omega)]
      exact this _ (h d (by simp))
    rw [this]
mutual
theorem kids_under : ∀ (t : Tr) (p : Nat), ∀ d ∈ ndsT t p, ∀ x ∈ d.kids, (p : Int) < x ∧ x < ((p + t.size : Nat) : Int)
  | .node k s n ks, p, d, hd, x, hx => by
    simp only [ndsT, Tr.flat, List.map_cons] at hd
    rcases List.mem_cons.1 hd with rfl | hd
    · obtain ⟨y, hy, rfl⟩ := List.mem_map.1 hx
      have := places_in ks (p + 1) y hy
      simp only [Tr.size]
      omega
    · have := kidsL_under ks (p + 1) d hd x hx
      simp only [Tr.size]
      omega
theorem kidsL_under : ∀ (ts : List Tr) (p : Nat), ∀ d ∈ ndsL ts p, ∀ x ∈ d.kids, (p : Int) < x ∧ x < ((p + sizeL ts : Nat) : Int)
  | [], p, d, hd, x, hx => by simp [ndsL, flatL] at hd
  | t :: ts, p, d, hd, x, hx => by
    simp only [ndsL, flatL, List.map_append] at hd
    rcases List.mem_append.1 hd with hd | hd
    · have := kids_under t p d hd x hx
      simp only [sizeL]
      omega
    · have := kidsL_under ts (p + t.size) d hd x hx
      simp only [sizeL]
      omega
end
/-- a list that stands behind: all of it is moved -/
theorem sh_all {fr : Int} {m : Int} : ∀ (L : List ND), (∀ d ∈ L, ∀ x ∈ d.kids, fr ≤ x) → L.map (shD fr m) = L.map (forthD m)
  | [], _ => rfl
  | d :: L, h => by
    simp only [List.map_cons]
    rw [sh_all L (fun d hd => h d (by simp [hd]))]
    congr 1
    unfold shD forthD
    have : ∀ K : List Int, (∀ x ∈ K, fr ≤ x) → K.map (fun x => if fr ≤ x then x + m else x) = K.map (· + m) := by
      intro K
      induction K with
      | nil => intro _; rfl
      | cons x K ih =>
        intro hK
        simp only [List.map_cons]
        rw [ih (fun y hy => hK y (by simp [hy])), if_pos (hK x (by simp))]
    rw [this _ (h d (by simp))]
theorem forth_int {L : List ND} {m : Int} {a b : Nat} (t : List Tr) (h : (a : Int) + m = (b : Int)) : (ndsL t a).map (forthD m) = ndsL t b := by
  rcases Int.le_total 0 m with hm | hm
  · obtain ⟨k, rfl⟩ := Int.eq_ofNat_of_zero_le hm
    obtain rfl : b = a + k := by omega
    exact flatL_forth t a k
  · obtain ⟨k, hk⟩ := Int.eq_ofNat_of_zero_le (show 0 ≤ -m by omega)
    obtain rfl : a = b + k := by omega
    have h2 := flatL_forth t b k
    show (ndsL t (b + k)).map (forthD m) = ndsL t b
    have h3 : (ndsL t (b + k)) = (ndsL t b).map (forthD (k : Int)) := h2.symm
    rw [h3, List.map_map]
    have : ∀ M : List ND, M.map (forthD m ∘ forthD (k : Int)) = M := by
      intro M
      induction M with
      | nil => rfl
      | cons d M ih =>
        simp only [List.map_cons, ih]
        congr 1
        unfold forthD
        simp only [Function.comp_apply, List.map_map]
        have : (d.kids.map ((fun x => x + m) ∘ fun x => x + (k : Int))) = d.kids := by
          have hK : ∀ K : List Int, K.map ((fun x => x + m) ∘ fun x => x + (k : Int)) = K := by
            intro K
            induction K with
            | nil => rfl
            | cons x K ihK => simp only [List.map_cons, ihK, Function.comp_apply]; congr 1; omega
          exact hK _
        rw [this]
    exact this _
theorem nds_forth_int {m : Int} {a b : Nat} (t : Tr) (h : (a : Int) + m = (b : Int)) : (ndsT t a).map (forthD m) = ndsT t b := by
  have := forth_int (L := []) [t] h
  simpa [ndsL, flatL, ndsT] using this
/-- the places of a list's trees, where one of them has another size -/
theorem places_rep : ∀ (ts : List Tr) (i : Nat) (u v : Tr) (p : Nat), subL ts i = some u → ((placesL ts p).map fun n : Nat => (n : Int)).map (fun x => if ((p + i + u.size : Nat) : Int) ≤ x then x + ((v.size : Int) - (u.size : Int)) else x) = (placesL (repL ts i v) p).map fun n : Nat => (n : Int)
  | [], i, u, v, p, h => by simp [subL] at h
  | t :: ts, i, u, v, p, h => by
    simp only [subL] at h
    have hpos : 1 ≤ u.size := by obtain ⟨k, s, n, ks⟩ := u; simp only [Tr.size]; omega
    by_cases hi : i < t.size
    · rw [if_pos hi] at h
      simp only [repL, if_pos hi, placesL, List.map_cons]
      rw [if_neg (by omega)]
      congr 1
      obtain ⟨u', e1, e2, _⟩ := sub_some t i hi
      rw [h] at e1
      injection e1 with e1
      subst e1
      have hs := rep_size t i u v h
      have key : ∀ (ts : List Tr) (a b : Nat), p + i + u.size ≤ a → (b : Int) = (a : Int) + ((v.size : Int) - (u.size : Int)) → ((placesL ts a).map fun n : Nat => (n : Int)).map (fun x => if ((p + i + u.size : Nat) : Int) ≤ x then x + ((v.size : Int) - (u.size : Int)) else x) = (placesL ts b).map fun n : Nat => (n : Int) := by
        intro ts
        induction ts with
        | nil => intro a b _ _; rfl
        | cons t ts ih =>
          intro a b ha hb
          simp only [placesL, List.map_cons]
          rw [ih (a + t.size) (b + t.size) (by omega) (by omega), if_pos (by omega)]
          congr 1
          omega
      exact key ts (p + t.size) (p + (repT t i v).size) (by omega) (by omega)
    · rw [if_neg hi] at h
      simp only [repL, if_neg hi, placesL, List.map_cons]
      rw [if_neg (by omega)]
      congr 1
      have := places_rep ts (i - t.size) u v (p + t.size) h
      rw [show p + t.size + (i - t.size) + u.size = p + i + u.size by omega] at this
      exact this
mutual
/-- the list with another one in the place of a part -/
theorem nds_rep : ∀ (t : Tr) (i : Nat) (u v : Tr) (p : Nat), subT t i = some u → ((ndsT t p).take i).map (shD ((p + i + u.size : Nat) : Int) ((v.size : Int) - (u.size : Int))) ++ ndsT v (p + i) ++ ((ndsT t p).drop (i + u.size)).map (shD ((p + i + u.size : Nat) : Int) ((v.size : Int) - (u.size : Int))) = ndsT (repT t i v) p
  | .node k s n ks, 0, u, v, p, h => by
    simp only [subT] at h
    injection h with h
    subst h
    simp only [repT, List.take_zero, List.map_nil, List.nil_append, Nat.add_zero, Nat.zero_add]
    rw [List.drop_of_length_le (by rw [nds_len]; exact Nat.le_refl _)]
    simp
  | .node k s n ks, i + 1, u, v, p, h => by
    simp only [subT] at h
    have ih := ndsL_rep ks i u v (p + 1) h
    have hp := places_rep ks i u v (p + 1) h
    have e : ndsT (.node k s n ks) p = ⟨(k : Int), s, n, (placesL ks (p + 1)).map fun n : Nat => (n : Int)⟩ :: ndsL ks (p + 1) := by simp [ndsT, ndsL, Tr.flat, EN.nd]
    have e2 : ndsT (repT (.node k s n ks) (i + 1) v) p = ⟨(k : Int), s, n, (placesL (repL ks i v) (p + 1)).map fun n : Nat => (n : Int)⟩ :: ndsL (repL ks i v) (p + 1) := by simp [repT, ndsT, ndsL, Tr.flat, EN.nd]
    rw [e, e2, ← ih, ← hp]
    rw [show i + 1 + u.size = (i + u.size) + 1 by omega]
    simp only [List.take_succ_cons, List.drop_succ_cons, List.map_cons, List.cons_append]
    rw [show p + (i + 1) = p + 1 + i by omega]
    rfl
theorem ndsL_rep : ∀ (ts : List Tr) (i : Nat) (u v : Tr) (p : Nat), subL ts i = some u → ((ndsL ts p).take i).map (shD ((p + i + u.size : Nat) : Int) ((v.size : Int) - (u.size : Int))) ++ ndsT v (p + i) ++ ((ndsL ts p).drop (i + u.size)).map (shD ((p + i + u.size : Nat) : Int) ((v.size : Int) - (u.size : Int))) = ndsL (repL ts i v) p
  | [], i, u, v, p, h => by simp [subL] at h
  | t :: ts, i, u, v, p, h => by
    simp only [subL] at h
    have e : ndsL (t :: ts) p = ndsT t p ++ ndsL ts (p + t.size) := by simp [ndsL, ndsT, flatL]
    by_cases hi : i < t.size
    · rw [if_pos hi] at h
      obtain ⟨u', e1, e2, _⟩ := sub_some t i hi
      rw [h] at e1
      injection e1 with e1
      subst e1
      have ih := nds_rep t i u v p h
      have hs := rep_size t i u v h
      have e3 : ndsL (repL (t :: ts) i v) p = ndsT (repT t i v) p ++ ndsL ts (p + (repT t i v).size) := by simp [repL, hi, ndsL, ndsT, flatL]
      rw [e, e3, ← ih]
      rw [List.take_append_of_le_length (by rw [nds_len]; omega), List.drop_append_of_le_length (by rw [nds_len]; omega), List.map_append]
      rw [sh_all (ndsL ts (p + t.size)) (fun d hd x hx => by have := kidsL_under ts (p + t.size) d hd x hx; omega)]
      rw [forth_int (L := []) ts (b := p + (repT t i v).size) (by omega)]
      simp only [List.append_assoc]
    · rw [if_neg hi] at h
      have ih := ndsL_rep ts (i - t.size) u v (p + t.size) h
      have e3 : ndsL (repL (t :: ts) i v) p = ndsT t p ++ ndsL (repL ts (i - t.size) v) (p + t.size) := by simp [repL, hi, ndsL, ndsT, flatL]
      rw [e, e3, ← ih]
      have hl : (ndsT t p).length = t.size := nds_len t p
      rw [List.take_append, List.drop_append, hl, List.take_of_length_le (by omega), List.drop_of_length_le (by omega), List.map_append, List.nil_append]
      rw [sh_low (ndsT t p) (fun d hd x hx => by have := kids_under t p d hd x hx; omega)]
      rw [show p + t.size + (i - t.size) = p + i by omega, show i + u.size - t.size = i - t.size + u.size by omega]
      simp only [List.append_assoc]
end
end Go.Proofs.YtidkbodmiegbkaaGreatDoor
