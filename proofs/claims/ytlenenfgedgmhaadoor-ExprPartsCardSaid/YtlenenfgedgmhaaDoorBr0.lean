/- The grammar's reading is local: what it says of a row cut at a token holds of the whole; and moved by a bracket. -/
import Derived.Test.YtlenenfgedgmhaaDoorPrim
namespace Go.Proofs.YtlenenfgedgmhaaDoor
set_option linter.unusedSimpArgs false
set_option linter.unusedVariables false

/-- what is read ends at a place or behind it -/
def Ge (a : Nat) : PR → Prop
  | .ok _ j => a ≤ j
  | .no j => a ≤ j
  | .out => True
theorem Ge.mono {a b : Nat} {r : PR} (h : Ge a r) (hb : b ≤ a) : Ge b r := by
  cases r with
  | ok t j => exact Nat.le_trans hb h
  | no j => exact Nat.le_trans hb h
  | out => trivial
theorem Ge.bind {a : Nat} {r : PR} {g : Tr → Nat → PR} (h : Ge a r) (hg : ∀ t j, a ≤ j → Ge a (g t j)) : Ge a (r.bind g) := by
  cases r with
  | ok t j => exact hg t j h
  | no j => exact h
  | out => trivial
theorem Ge.want {l : List Tok} {a i : Nat} {s : List Nat} {r : PR} (hi : a ≤ i) (h : Ge a r) : Ge a (want l i s r) := by
  unfold Go.Proofs.YtlenenfgedgmhaaDoor.want
  split
  · exact h
  · exact hi
theorem Ge.name {l : List Tok} {a i : Nat} {g : List Nat → PR} (hi : a ≤ i) (h : ∀ s, Ge a (g s)) : Ge a (nameAt l i g) := by
  unfold nameAt
  split
  · split
    · exact h _
    · exact hi
  · exact hi
theorem p_ge (l : List Tok) : ∀ f : Nat, (∀ n i, Ge i (pL l f n i)) ∧ (∀ n t i, Ge i (pR l f n t i)) ∧ (∀ t i, Ge i (pQ l f t i)) ∧ (∀ i, Ge i (pP l f i))
  | 0 => ⟨fun n i => by rw [pL]; trivial, fun n t i => by rw [pR]; trivial, fun t i => by rw [pQ]; trivial, fun i => by rw [pP]; trivial⟩
  | f + 1 => by
    obtain ⟨hL, hR, hQ, hP⟩ := p_ge l f
    refine ⟨fun n i => ?_, fun n t i => ?_, fun t i => ?_, fun i => ?_⟩
    · rw [pL]
      split
      · split
        · exact ((hL 3 (i + 1)).mono (Nat.le_succ i)).bind (fun t j h => h)
        · exact hL 4 i
      · split
        · exact (hP i).bind (fun t j h => (hQ t j).mono h)
        · exact (hL (n + 1) i).bind (fun t j h => (hR n t j).mono h)
    · rw [pR]
      split
      · exact Nat.le_refl i
      · refine ((hL (n + 1) (i + 1)).mono (Nat.le_succ i)).bind (fun r j h => ?_)
        split
        · exact h
        · exact (hR n _ j).mono h
    · rw [pQ]
      split
      · exact Nat.le_refl i
      · split
        · exact (hQ _ (i + 1)).mono (Nat.le_succ i)
        · exact Ge.name (Nat.le_succ i) (fun s => (hQ _ (i + 2)).mono (by omega))
    · cases hx : l[i]? with
      | none => rw [pP_none f hx]; exact Nat.le_refl i
      | some t =>
        rw [pP_some f hx]
        split
        · exact Nat.le_succ i
        split
        · exact Nat.le_succ i
        split
        · exact Nat.le_succ i
        split
        · unfold markR
          split
          · split
            · split
              · exact (by show i ≤ i + 2; omega)
              · exact Nat.le_succ i
            · exact Nat.le_succ i
          · split
            · exact ((hL 1 (i + 1)).mono (Nat.le_succ i)).bind (fun k j h => Ge.want h (by show i ≤ j + 1; omega))
            · exact Nat.le_refl i
        · unfold wordR
          split
          · exact Nat.le_refl i
          split
          · exact Nat.le_succ i
          split
          · exact Ge.want (Nat.le_succ i) (((hL 1 (i + 2)).mono (by omega)).bind (fun a j h => Ge.want h (by show i ≤ j + 1; omega)))
          split
          · exact Ge.name (Nat.le_succ i) (fun s => Ge.want (by omega) (((hL 1 (i + 3)).mono (by omega)).bind (fun a j h => Ge.want h (((hL 1 (j + 1)).mono (by omega)).bind (fun b m h => Ge.want h (by show i ≤ m + 1; omega))))))
          · exact ((hL 1 (i + 1)).mono (by omega)).bind (fun a j h => Ge.want h (((hL 1 (j + 1)).mono (by omega)).bind (fun b m h => Ge.want h (((hL 1 (m + 1)).mono (by omega)).bind (fun c q h => Ge.want h (by show i ≤ q + 1; omega))))))
/-- what is said of a row that is cut holds of the whole, where it ends ahead of the cut -/
def Loc (i : Nat) : PR → PR → Prop
  | .ok t j, r' => j < i → r' = .ok t j
  | .no j, r' => j < i → r' = .no j
  | .out, _ => True
theorem Loc.of_ge {i : Nat} {r r' : PR} (h : Ge i r) : Loc i r r' := by
  cases r with
  | ok t j => exact fun hj => absurd hj (Nat.not_lt.2 h)
  | no j => exact fun hj => absurd hj (Nat.not_lt.2 h)
  | out => trivial
theorem Loc.refl (i : Nat) (r : PR) : Loc i r r := by cases r <;> first | exact fun _ => rfl | trivial
theorem Loc.bind {i : Nat} {r r' : PR} {g g' : Tr → Nat → PR} (h : Loc i r r') (hge : ∀ t j, i ≤ j → Ge i (g t j)) (hg : ∀ t j, j < i → Loc i (g t j) (g' t j)) : Loc i (r.bind g) (r'.bind g') := by
  cases r with
  | ok t j =>
    rcases Nat.lt_or_ge j i with hj | hj
    · rw [h hj]; exact hg t j hj
    · exact Loc.of_ge (hge t j hj)
  | no j => exact fun hj => by rw [h hj]; rfl
  | out => trivial
section
variable {l : List Tok} {i : Nat}
theorem cut_get {a : Nat} (h : a < i) : (l.take i)[a]? = l[a]? := List.getElem?_take_of_lt h
theorem cut_isT {a : Nat} (h : a < i) (s : List Nat) : isT (l.take i) a s = isT l a s := by unfold isT; rw [cut_get h]
theorem cut_sign {a : Nat} (h : a < i) (n : Nat) : signK (l.take i) n a = signK l n a := by unfold signK; simp only [cut_isT h]
theorem Loc.want {a : Nat} {s : List Nat} {r r' : PR} (hge : i ≤ a → Ge i r) (h : a < i → Loc i r r') : Loc i (want (l.take i) a s r) (want l a s r') := by
  rcases Nat.lt_or_ge a i with ha | ha
  · unfold Go.Proofs.YtlenenfgedgmhaaDoor.want
    rw [cut_isT ha]
    split
    · exact h ha
    · exact fun _ => rfl
  · exact Loc.of_ge (Ge.want ha (hge ha))
theorem Loc.name {a : Nat} {g g' : List Nat → PR} (hge : i ≤ a → ∀ s, Ge i (g s)) (h : a < i → ∀ s, Loc i (g s) (g' s)) : Loc i (nameAt (l.take i) a g) (nameAt l a g') := by
  rcases Nat.lt_or_ge a i with ha | ha
  · unfold nameAt
    rw [cut_get ha]
    split
    · split
      · exact h ha _
      · exact fun _ => rfl
    · exact fun _ => rfl
  · exact Loc.of_ge (Ge.name ha (hge ha))
theorem p_loc (l : List Tok) (i : Nat) : ∀ f : Nat, (∀ n a, Loc i (pL (l.take i) f n a) (pL l f n a)) ∧ (∀ n t a, Loc i (pR (l.take i) f n t a) (pR l f n t a)) ∧ (∀ t a, Loc i (pQ (l.take i) f t a) (pQ l f t a)) ∧ (∀ a, Loc i (pP (l.take i) f a) (pP l f a))
  | 0 => ⟨fun n a => by rw [pL]; trivial, fun n t a => by rw [pR]; trivial, fun t a => by rw [pQ]; trivial, fun a => by rw [pP]; trivial⟩
  | f + 1 => by
    obtain ⟨hL, hR, hQ, hP⟩ := p_loc l i f
    obtain ⟨gL, gR, gQ, gP⟩ := p_ge (l.take i) f
    obtain ⟨gL1, gR1, gQ1, gP1⟩ := p_ge (l.take i) (f + 1)
    refine ⟨fun n a => ?_, fun n t a => ?_, fun t a => ?_, fun a => ?_⟩
    · rcases Nat.lt_or_ge a i with ha | ha
      rotate_left
      · exact Loc.of_ge ((gL1 n a).mono ha)
      rw [pL, pL, cut_isT ha]
      split
      · split
        · exact (hL 3 (a + 1)).bind (fun t j h => h) (fun t j _ => Loc.refl _ _)
        · exact hL 4 a
      · split
        · exact (hP a).bind (fun t j h => (gQ t j).mono h) (fun t j _ => hQ t j)
        · exact (hL (n + 1) a).bind (fun t j h => (gR n t j).mono h) (fun t j _ => hR n t j)
    · rcases Nat.lt_or_ge a i with ha | ha
      rotate_left
      · exact Loc.of_ge ((gR1 n t a).mono ha)
      rw [pR, pR, cut_sign ha]
      split
      · exact Loc.refl _ _
      · refine (hL (n + 1) (a + 1)).bind (fun r j h => ?_) (fun r j _ => ?_)
        · split
          · exact h
          · exact (gR n _ j).mono h
        · split
          · exact Loc.refl _ _
          · exact hR n _ j
    · rcases Nat.lt_or_ge a i with ha | ha
      rotate_left
      · exact Loc.of_ge ((gQ1 t a).mono ha)
      rw [pQ, pQ, cut_sign ha]
      split
      · exact Loc.refl _ _
      · split
        · exact hQ _ (a + 1)
        · exact Loc.name (fun h s => (gQ _ (a + 2)).mono (by omega)) (fun _ s => hQ _ (a + 2))
    · rcases Nat.lt_or_ge a i with ha | ha
      rotate_left
      · exact Loc.of_ge ((gP1 a).mono ha)
      cases hx : l[a]? with
      | none => rw [pP_none f hx, pP_none f ((cut_get ha).trans hx)]; exact Loc.refl _ _
      | some t =>
        rw [pP_some f hx, pP_some f ((cut_get ha).trans hx)]
        split
        · exact Loc.refl _ _
        split
        · exact Loc.refl _ _
        split
        · exact Loc.refl _ _
        split
        · unfold markR
          split
          · rcases Nat.lt_or_ge (a + 1) i with ha1 | ha1
            · rw [cut_get ha1]; exact Loc.refl _ _
            · refine Loc.of_ge ?_
              split
              · split
                · exact (by show i ≤ a + 2; omega)
                · exact ha1
              · exact ha1
          · split
            · exact (hL 1 (a + 1)).bind (fun k j h => Ge.want h (by show i ≤ j + 1; omega)) (fun k j _ => Loc.want (fun h => by show i ≤ j + 1; omega) (fun _ => Loc.refl _ _))
            · exact Loc.refl _ _
        · unfold wordR
          split
          · exact Loc.refl _ _
          split
          · exact Loc.refl _ _
          split
          · exact Loc.want (fun h => ((gL 1 (a + 2)).mono (by omega)).bind (fun b j h => Ge.want h (by show i ≤ j + 1; omega))) (fun _ => (hL 1 (a + 2)).bind (fun b j h => Ge.want h (by show i ≤ j + 1; omega)) (fun b j _ => Loc.want (fun h => by show i ≤ j + 1; omega) (fun _ => Loc.refl _ _)))
          split
          · have e1 : ∀ (s : List Nat) (x : Tr) (j : Nat), i ≤ j → Ge i (want (l.take i) j colonT ((pL (l.take i) f 1 (j + 1)).bind fun b m => want (l.take i) m endT (.ok (.node (oneN t.text).1 s 0 [x, b]) (m + 1)))) := fun s x j h => Ge.want h (((gL 1 (j + 1)).mono (by omega)).bind (fun b m h => Ge.want h (by show i ≤ m + 1; omega)))
            have e0 : ∀ (s : List Nat), i ≤ a + 2 → Ge i (want (l.take i) (a + 2) inT ((pL (l.take i) f 1 (a + 3)).bind fun x j => want (l.take i) j colonT ((pL (l.take i) f 1 (j + 1)).bind fun b m => want (l.take i) m endT (.ok (.node (oneN t.text).1 s 0 [x, b]) (m + 1))))) := fun s h => Ge.want h (((gL 1 (a + 3)).mono (by omega)).bind (fun x j h => e1 s x j h))
            exact Loc.name (fun h s => e0 s (by omega)) (fun _ s => Loc.want (fun h => ((gL 1 (a + 3)).mono (by omega)).bind (fun x j h => e1 s x j h)) (fun _ => (hL 1 (a + 3)).bind (fun x j h => e1 s x j h) (fun x j _ => Loc.want (fun h => ((gL 1 (j + 1)).mono (by omega)).bind (fun b m h => Ge.want h (by show i ≤ m + 1; omega))) (fun _ => (hL 1 (j + 1)).bind (fun b m h => Ge.want h (by show i ≤ m + 1; omega)) (fun b m _ => Loc.want (fun h => by show i ≤ m + 1; omega) (fun _ => Loc.refl _ _))))))
          · have e2 : ∀ (x b : Tr) (m : Nat), i ≤ m → Ge i (want (l.take i) m elseT ((pL (l.take i) f 1 (m + 1)).bind fun c q => want (l.take i) q endT (.ok (.node (oneN t.text).1 [] 0 [x, b, c]) (q + 1)))) := fun x b m h => Ge.want h (((gL 1 (m + 1)).mono (by omega)).bind (fun c q h => Ge.want h (by show i ≤ q + 1; omega)))
            have e1 : ∀ (x : Tr) (j : Nat), i ≤ j → Ge i (want (l.take i) j thenT ((pL (l.take i) f 1 (j + 1)).bind fun b m => want (l.take i) m elseT ((pL (l.take i) f 1 (m + 1)).bind fun c q => want (l.take i) q endT (.ok (.node (oneN t.text).1 [] 0 [x, b, c]) (q + 1))))) := fun x j h => Ge.want h (((gL 1 (j + 1)).mono (by omega)).bind (fun b m h => e2 x b m h))
            exact (hL 1 (a + 1)).bind (fun x j h => e1 x j h) (fun x j _ => Loc.want (fun h => ((gL 1 (j + 1)).mono (by omega)).bind (fun b m h => e2 x b m h)) (fun _ => (hL 1 (j + 1)).bind (fun b m h => e2 x b m h) (fun b m _ => Loc.want (fun h => ((gL 1 (m + 1)).mono (by omega)).bind (fun c q h => Ge.want h (by show i ≤ q + 1; omega))) (fun _ => (hL 1 (m + 1)).bind (fun c q h => Ge.want h (by show i ≤ q + 1; omega)) (fun c q _ => Loc.want (fun h => by show i ≤ q + 1; omega) (fun _ => Loc.refl _ _))))))
end
end Go.Proofs.YtlenenfgedgmhaaDoor
