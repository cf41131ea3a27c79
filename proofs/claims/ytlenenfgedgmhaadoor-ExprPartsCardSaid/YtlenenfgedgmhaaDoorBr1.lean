/- The grammar's reading, moved: where a row stands within another one, what is read of it is read there. -/
import Derived.Test.YtlenenfgedgmhaaDoorBr0
namespace Go.Proofs.YtlenenfgedgmhaaDoor
set_option linter.unusedSimpArgs false
set_option linter.unusedVariables false

/-- what is read well is read well at a place further on -/
def Sh (d : Nat) (r r' : PR) : Prop := ∀ t j, r = .ok t j → r' = .ok t (j + d)
theorem Sh.bind {d : Nat} {r r' : PR} {g g' : Tr → Nat → PR} (h : Sh d r r') (hg : ∀ t j, Sh d (g t j) (g' t (j + d))) : Sh d (r.bind g) (r'.bind g') := by
  intro t j e
  cases r with
  | ok u k => rw [h u k rfl]; exact hg u k t j e
  | no k => cases e
  | out => cases e
theorem Sh.ok {d : Nat} (t : Tr) (j : Nat) {j' : Nat} (h : j' = j + d) : Sh d (.ok t j) (.ok t j') := by
  intro t' k e
  injection e with e1 e2
  subst e1 e2 h
  rfl
theorem Sh.no {d j : Nat} {r' : PR} : Sh d (.no j) r' := fun t k e => by cases e
theorem find_congr {α : Type} {p q : α → Bool} : ∀ {l : List α}, (∀ x ∈ l, p x = q x) → l.find? p = l.find? q
  | [], _ => rfl
  | x :: l, h => by
    rw [List.find?_cons, List.find?_cons, h x (by simp), find_congr (fun y hy => h y (by simp [hy]))]
/-- a row of tokens within another one; behind its end no sign, no 'not' -/
structure Within (l l' : List Tok) (d : Nat) : Prop where
  tok : ∀ j t, l[j]? = some t → ∃ t', l'[j + d]? = some t' ∧ t'.kind = t.kind ∧ t'.text = t.text ∧ t'.num = t.num
  past : ∀ j, l[j]? = none → isT l' (j + d) notT = false ∧ ∀ x ∈ signsL, isT l' (j + d) x.1 = false
section
variable {l l' : List Tok} {d : Nat}
theorem Within.isT_some (h : Within l l' d) {a : Nat} {t : Tok} (ha : l[a]? = some t) (s : List Nat) : isT l' (a + d) s = isT l a s := by
  obtain ⟨t', h1, h2, h3, _⟩ := h.tok a t ha
  unfold isT
  rw [ha, h1]
  simp only
  rw [h2, h3]
theorem isT_none {a : Nat} (ha : l[a]? = none) (s : List Nat) : isT l a s = false := by unfold isT; rw [ha]
theorem Within.not_ (h : Within l l' d) (a : Nat) : isT l' (a + d) notT = isT l a notT := by
  cases ha : l[a]? with
  | none => rw [isT_none ha, (h.past a ha).1]
  | some t => exact h.isT_some ha _
theorem Within.sign (h : Within l l' d) (n a : Nat) : signK l' n (a + d) = signK l n a := by
  unfold signK
  rw [find_congr (fun x hx => ?_)]
  cases ha : l[a]? with
  | none => rw [isT_none ha, (h.past a ha).2 x hx]
  | some t => rw [h.isT_some ha]
theorem Sh.want (h : Within l l' d) {a : Nat} {s : List Nat} {r r' : PR} (hr : Sh d r r') {a' : Nat} (ha' : a' = a + d) : Sh d (want l a s r) (want l' a' s r') := by
  subst ha'
  unfold Go.Proofs.YtlenenfgedgmhaaDoor.want
  cases hb : isT l a s with
  | false => rw [if_neg (by simp)]; exact Sh.no
  | true =>
    have hlt := isT_lt hb
    rw [h.isT_some (List.getElem?_eq_getElem hlt), hb, if_pos rfl, if_pos rfl]
    exact hr
theorem Sh.name (h : Within l l' d) {a : Nat} {g g' : List Nat → PR} (hg : ∀ s, Sh d (g s) (g' s)) {a' : Nat} (ha' : a' = a + d) : Sh d (nameAt l a g) (nameAt l' a' g') := by
  subst ha'
  unfold nameAt
  cases ha : l[a]? with
  | none => exact Sh.no
  | some t =>
    obtain ⟨t', h1, h2, h3, _⟩ := h.tok a t ha
    rw [h1]
    simp only
    rw [h2, h3]
    split
    · exact hg _
    · exact Sh.no
theorem p_shift (h : Within l l' d) : ∀ f f' : Nat, f ≤ f' → (∀ n a, Sh d (pL l f n a) (pL l' f' n (a + d))) ∧ (∀ n t a, Sh d (pR l f n t a) (pR l' f' n t (a + d))) ∧ (∀ t a, Sh d (pQ l f t a) (pQ l' f' t (a + d))) ∧ (∀ a, Sh d (pP l f a) (pP l' f' (a + d)))
  | 0, _, _ => ⟨fun n a t j e => (by rw [pL] at e; cases e), fun n t a t' j e => (by rw [pR] at e; cases e), fun t a t' j e => (by rw [pQ] at e; cases e), fun a t j e => (by rw [pP] at e; cases e)⟩
  | f + 1, f', hf => by
    obtain ⟨g, rfl⟩ : ∃ g, f' = g + 1 := ⟨f' - 1, by omega⟩
    obtain ⟨hL, hR, hQ, hP⟩ := p_shift h f g (by omega)
    have hL' : ∀ n a a', a' = a + d → Sh d (pL l f n a) (pL l' g n a') := fun n a a' e => by rw [e]; exact hL n a
    have hQ' : ∀ t a a', a' = a + d → Sh d (pQ l f t a) (pQ l' g t a') := fun t a a' e => by rw [e]; exact hQ t a
    refine ⟨fun n a => ?_, fun n t a => ?_, fun t a => ?_, fun a => ?_⟩
    · rw [pL, pL, h.not_]
      split
      · split
        · exact (hL' 3 (a + 1) _ (by omega)).bind (fun t j => Sh.ok _ _ rfl)
        · exact hL 4 a
      · split
        · exact (hP a).bind (fun t j => hQ t j)
        · exact (hL (n + 1) a).bind (fun t j => hR n t j)
    · rw [pR, pR, h.sign]
      split
      · exact Sh.ok _ _ rfl
      · refine (hL' (n + 1) (a + 1) _ (by omega)).bind (fun r j => ?_)
        split
        · exact Sh.ok _ _ rfl
        · exact hR n _ j
    · rw [pQ, pQ, h.sign]
      split
      · exact Sh.ok _ _ rfl
      · split
        · exact hQ' _ (a + 1) _ (by omega)
        · exact Sh.name h (fun s => hQ' _ (a + 2) _ (by omega)) (by omega)
    · cases hx : l[a]? with
      | none => rw [pP_none f hx]; exact Sh.no
      | some t =>
        obtain ⟨t', h1, h2, h3, h4⟩ := h.tok a t hx
        rw [pP_some f hx, pP_some g h1, h2, h3, h4]
        split
        · exact Sh.ok _ _ (by omega)
        split
        · exact Sh.ok _ _ (by omega)
        split
        · exact Sh.ok _ _ (by omega)
        split
        · unfold markR
          split
          · cases hy : l[a + 1]? with
            | none => exact Sh.no
            | some x =>
              obtain ⟨x', k1, k2, k3, k4⟩ := h.tok (a + 1) x hy
              rw [show a + d + 1 = a + 1 + d by omega, k1]
              simp only
              rw [k2, k4]
              split
              · exact Sh.ok _ _ (by omega)
              · exact Sh.no
          · split
            · exact (hL' 1 (a + 1) _ (by omega)).bind (fun k j => Sh.want h (Sh.ok _ _ (by omega)) rfl)
            · exact Sh.no
        · unfold wordR
          split
          · exact Sh.no
          split
          · exact Sh.ok _ _ (by omega)
          split
          · exact Sh.want h ((hL' 1 (a + 2) _ (by omega)).bind (fun b j => Sh.want h (Sh.ok _ _ (by omega)) rfl)) (by omega)
          split
          · exact Sh.name h (fun s => Sh.want h ((hL' 1 (a + 3) _ (by omega)).bind (fun x j => Sh.want h ((hL' 1 (j + 1) _ (by omega)).bind (fun b m => Sh.want h (Sh.ok _ _ (by omega)) rfl)) rfl)) (by omega)) (by omega)
          · exact (hL' 1 (a + 1) _ (by omega)).bind (fun x j => Sh.want h ((hL' 1 (j + 1) _ (by omega)).bind (fun b m => Sh.want h ((hL' 1 (m + 1) _ (by omega)).bind (fun c q => Sh.want h (Sh.ok _ _ (by omega)) rfl)) rfl)) rfl)
end
end Go.Proofs.YtlenenfgedgmhaaDoor
