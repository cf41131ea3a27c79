/- What a reading that is told says with more fuel; a text in brackets; a text cut at an error. -/
import Derived.Test.YtlenenfgedgmhaaDoorBr2
namespace Go.Proofs.YtlenenfgedgmhaaDoor
set_option linter.unusedSimpArgs false
set_option linter.unusedVariables false

/-- what is told stays with more fuel -/
def Mo (r r' : PR) : Prop := r ≠ .out → r' = r
theorem Mo.refl (r : PR) : Mo r r := fun _ => rfl
theorem Mo.bind {r r' : PR} {g g' : Tr → Nat → PR} (h : Mo r r') (hg : ∀ t j, Mo (g t j) (g' t j)) : Mo (r.bind g) (r'.bind g') := by
  intro hne
  cases r with
  | ok u k => rw [h (by simp)]; exact hg u k hne
  | no k => rw [h (by simp)]; rfl
  | out => exact absurd rfl hne
theorem Mo.want {l : List Tok} {a : Nat} {s : List Nat} {r r' : PR} (h : Mo r r') : Mo (want l a s r) (want l a s r') := by
  unfold Go.Proofs.YtlenenfgedgmhaaDoor.want
  split
  · exact h
  · exact Mo.refl _
theorem Mo.name {l : List Tok} {a : Nat} {g g' : List Nat → PR} (h : ∀ s, Mo (g s) (g' s)) : Mo (nameAt l a g) (nameAt l a g') := by
  unfold nameAt
  split
  · split
    · exact h _
    · exact Mo.refl _
  · exact Mo.refl _
theorem p_more (l : List Tok) : ∀ f f' : Nat, f ≤ f' → (∀ n a, Mo (pL l f n a) (pL l f' n a)) ∧ (∀ n t a, Mo (pR l f n t a) (pR l f' n t a)) ∧ (∀ t a, Mo (pQ l f t a) (pQ l f' t a)) ∧ (∀ a, Mo (pP l f a) (pP l f' a))
  | 0, _, _ => ⟨fun n a e => absurd (by rw [pL]) e, fun n t a e => absurd (by rw [pR]) e, fun t a e => absurd (by rw [pQ]) e, fun a e => absurd (by rw [pP]) e⟩
  | f + 1, f', hf => by
    obtain ⟨g, rfl⟩ : ∃ g, f' = g + 1 := ⟨f' - 1, by omega⟩
    obtain ⟨hL, hR, hQ, hP⟩ := p_more l f g (by omega)
    refine ⟨fun n a => ?_, fun n t a => ?_, fun t a => ?_, fun a => ?_⟩
    · rw [pL, pL]
      split
      · split
        · exact (hL 3 (a + 1)).bind (fun t j => Mo.refl _)
        · exact hL 4 a
      · split
        · exact (hP a).bind (fun t j => hQ t j)
        · exact (hL (n + 1) a).bind (fun t j => hR n t j)
    · rw [pR, pR]
      split
      · exact Mo.refl _
      · refine (hL (n + 1) (a + 1)).bind (fun r j => ?_)
        split
        · exact Mo.refl _
        · exact hR n _ j
    · rw [pQ, pQ]
      split
      · exact Mo.refl _
      · split
        · exact hQ _ (a + 1)
        · exact Mo.name (fun s => hQ _ (a + 2))
    · cases hx : l[a]? with
      | none => rw [pP_none f hx, pP_none g hx]; exact Mo.refl _
      | some t =>
        rw [pP_some f hx, pP_some g hx]
        split
        · exact Mo.refl _
        split
        · exact Mo.refl _
        split
        · exact Mo.refl _
        split
        · unfold markR
          split
          · exact Mo.refl _
          · split
            · exact (hL 1 (a + 1)).bind (fun k j => Mo.refl _)
            · exact Mo.refl _
        · unfold wordR
          split
          · exact Mo.refl _
          split
          · exact Mo.refl _
          split
          · exact Mo.want ((hL 1 (a + 2)).bind (fun b j => Mo.refl _))
          split
          · exact Mo.name (fun s => Mo.want ((hL 1 (a + 3)).bind (fun x j => Mo.want ((hL 1 (j + 1)).bind (fun b m => Mo.refl _)))))
          · exact (hL 1 (a + 1)).bind (fun x j => Mo.want ((hL 1 (j + 1)).bind (fun b m => Mo.want ((hL 1 (m + 1)).bind (fun c q => Mo.refl _)))))
/-- what stands ahead of the token at which nothing goes on is an expression, or ends there -/
theorem parse_cut {T : List Tok} {i : Nat} (h : parseT T = .no i) (hi : i < T.length) : ∀ j, parseT (T.take i) = .no j → i ≤ j := by
  intro j hj
  rcases Nat.lt_or_ge j i with hlt | hge
  rotate_left
  · exact hge
  exfalso
  have hlen : (T.take i).length = i := by rw [List.length_take]; omega
  have hF : 12 * (T.take i).length + 10 ≤ 12 * T.length + 10 := by omega
  have hin := parse_told (T.take i)
  unfold parseT at h hj
  cases hp : pL (T.take i) (12 * (T.take i).length + 10) 1 0 with
  | out => rw [hp] at hin; exact hin
  | ok u k =>
    rw [hp] at hj hin
    simp only [PR.bind] at hj
    split at hj
    · rename_i hk
      injection hj with hj
      subst hj
      have h1 := (p_more (T.take i) _ _ hF).1 1 0 (by rw [hp]; simp)
      rw [hp] at h1
      have h2 := (p_loc T i (12 * T.length + 10)).1 1 0
      rw [h1] at h2
      rw [h2 hlt] at h
      simp only [PR.bind] at h
      rw [if_pos (by omega)] at h
      injection h with h
      omega
    · cases hj
  | no k =>
    rw [hp] at hj
    have hk : k = j := by injection hj
    subst hk
    have h1 := (p_more (T.take i) _ _ hF).1 1 0 (by rw [hp]; simp)
    rw [hp] at h1
    have h2 := (p_loc T i (12 * T.length + 10)).1 1 0
    rw [h1] at h2
    rw [h2 hlt] at h
    have h3 : k = i := by injection h
    omega
/-- a run, up to one of its tokens -/
theorem run_split {r : List Nat} {i0 : Nat} {T : List Tok} {r' : List Nat} {i' : Nat} (h : Run r i0 T r' i') : ∀ (k : Nat) (x : Tok), T[k]? = some x → ∃ r1 i1, Run r i0 (T.take k) r1 i1 ∧ x.place = (i1 : Int) := by
  induction h with
  | done r i => intro k x hk; simp at hk
  | blank hb _ ih =>
    intro k x hk
    obtain ⟨r1, i1, h1, h2⟩ := ih k x hk
    exact ⟨r1, i1, .blank hb h1, h2⟩
  | @tok r i kd s v n T r' i' hnb ht _ ih =>
    intro k x hk
    cases k with
    | zero => simp at hk; subst hk; exact ⟨r, i, .done _ _, rfl⟩
    | succ k =>
      simp only [List.getElem?_cons_succ] at hk
      obtain ⟨r1, i1, h1, h2⟩ := ih k x hk
      exact ⟨r1, i1, .tok hnb ht h1, h2⟩
theorem scan_cut {s : List Nat} (hs : Bytes s) (h4 : s.length ≤ 4096) {T : List Tok} {i' : Nat} (h : Run s 0 T [] i') {k : Nat} {x : Tok} (hk : T[k]? = some x) : ∃ i1 : Nat, x.place = (i1 : Int) ∧ i1 ≤ s.length ∧ scanN (s.take i1) = (T.take k, 0, 0) := by
  obtain ⟨r1, i1, h1, h2⟩ := run_split h k x hk
  obtain ⟨m, h3, h5, _⟩ := h1.place hs
  have hc := h1.ctx hs [] (fun x hx => by cases hx) (.inr (.inl rfl))
  rw [List.append_nil, Nat.sub_zero] at hc
  exact ⟨i1, h2, by omega, scan_ok (bytes_take hs i1) (by rw [List.length_take]; omega) hc⟩
end Go.Proofs.YtlenenfgedgmhaaDoor
