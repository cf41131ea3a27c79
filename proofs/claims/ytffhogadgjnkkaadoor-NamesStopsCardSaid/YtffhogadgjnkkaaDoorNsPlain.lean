/- The plain law of where a text in quotes is refused: it was right up to that place; cut there it is refused at its end, and something behind it makes it right. -/
import Derived.Test.YtffhogadgjnkkaaDoorNbPlain
namespace Go.Proofs.YtffhogadgjnkkaaDoor

theorem one_far {r : List Nat} {far : Nat} (h : one r = (none, far)) : far ≤ r.length := by
  cases r with
  | nil => simp [one] at h; omega
  | cons b t =>
    simp only [one] at h
    split at h
    · have := (esc_none h).2; simp; omega
    · split at h
      · simp at h; omega
      · simp at h
theorem row_end {d : Nat} (hd : d ≤ 15) (h : ¬ (hiddenN (16 * d) = false ∧ hiddenN (16 * d + 15) = false)) : hiddenN (16 * d + 15) = true := by
  rcases h1 : hiddenN (16 * d + 15) with _ | _
  · exfalso
    apply h
    refine ⟨?_, h1⟩
    simp only [hiddenN, decide_eq_false_iff_not] at h1 ⊢
    omega
  · rfl
/-- what makes a text right again -/
def ends : List (List Nat) := [[34], [34, 34], [110, 34], [102, 102, 34], [102, 34]]
/-- the remainder, cut at its fault: it is refused at its end, and one of the five makes it right -/
theorem stop_cut {r : List Nat} {far : Nat} (h : one r = (none, far)) : one (r.take far) = (none, far) ∧ ((far = 0) ∨ ∃ x ∈ ends, ∃ c n m, (r.take far).head? = some 92 ∧ one (r.take far ++ x) = (some (c, n), m) ∧ far + x.length = n + 1 ∧ (r.take far ++ x)[n]? = some 34) := by
  cases r with
  | nil =>
    simp [one] at h
    subst h
    exact ⟨rfl, Or.inl rfl⟩
  | cons b t =>
    by_cases hb : b = 92
    · subst hb
      simp only [one, if_pos] at h
      have e1 : one (92 :: ([] : List Nat)) = (none, 1) := rfl
      have x1 : ∃ x ∈ ends, ∃ c n m, ([92] : List Nat).head? = some 92 ∧ one ([92] ++ x) = (some (c, n), m) ∧ 1 + x.length = n + 1 ∧ ([92] ++ x)[n]? = some 34 := ⟨[34, 34], by simp [ends], 34, 2, 2, rfl, rfl, rfl, rfl⟩
      have x2 : ∃ x ∈ ends, ∃ c n m, ([92, 120] : List Nat).head? = some 92 ∧ one ([92, 120] ++ x) = (some (c, n), m) ∧ 2 + x.length = n + 1 ∧ ([92, 120] ++ x)[n]? = some 34 := ⟨[102, 102, 34], by simp [ends], 255, 4, 4, rfl, rfl, rfl, rfl⟩
      have e2 : one (92 :: [120]) = (none, 2) := rfl
      cases t with
      | nil => simp [esc] at h; subst h; exact ⟨e1, Or.inr x1⟩
      | cons d t =>
        by_cases hd : d = 34 ∨ d = 92
        · simp [esc, hd] at h
        by_cases hn : d = 110
        · simp [esc, hn] at h
        by_cases hx : d = 120
        · subst hx
          cases t with
          | nil => simp [esc] at h; subst h; exact ⟨e2, Or.inr x2⟩
          | cons g t =>
            by_cases hg : 15 < digitN g ∨ (hiddenN (16 * digitN g) = false ∧ hiddenN (16 * digitN g + 15) = false)
            · simp [esc, hg] at h
              subst h
              exact ⟨e2, Or.inr x2⟩
            · have far3 : far = 3 := by
                cases t with
                | nil => simp [esc, hg] at h; omega
                | cons l t =>
                  by_cases hl : 15 < digitN l ∨ hiddenN (16 * digitN g + digitN l) = false
                  · simp [esc, hg, hl] at h; omega
                  · simp [esc, hg, hl] at h
              subst far3
              have hh := row_end (d := digitN g) (by omega) (fun hx => hg (Or.inr hx))
              refine ⟨?_, Or.inr ⟨[102, 34], by simp [ends], 16 * digitN g + 15, 4, 4, rfl, ?_, rfl, rfl⟩⟩
              · show one [92, 120, g] = (none, 3)
                simp [one, esc, hg]
              · show one [92, 120, g, 102, 34] = _
                have d15 : digitN 102 = 15 := rfl
                have hl : ¬ (15 < digitN 102 ∨ hiddenN (16 * digitN g + digitN 102) = false) := by
                  rw [d15, hh]; simp
                simp [one, esc, hg, hl, d15]
                exact hh
        · have hd' : ¬ d = 34 ∧ ¬ d = 92 := by omega
          simp [esc, hd'.1, hd'.2, hn, hx] at h
          subst h
          exact ⟨e1, Or.inr x1⟩
    · by_cases hp : b < 32 ∨ 126 < b
      · simp [one, hb, hp] at h
        subst h
        exact ⟨rfl, Or.inl rfl⟩
      · simp [one, hb, hp] at h

theorem unq_more : ∀ (f : Nat) (l : List Nat) (i : Nat) (out y : List Nat) (k : Nat), Bytes l → unq l f i out = (y, k, 0) → i < k ∧ k ≤ l.length
  | 0, l, i, out, y, k, _, h => by simp [unq] at h
  | f + 1, l, i, out, y, k, hb, h => by
    rw [unq] at h
    by_cases h34 : l[i]? = some 34
    · rw [if_pos h34] at h
      simp only [Prod.mk.injEq] at h
      have := (List.getElem?_eq_some_iff.1 h34).1
      omega
    · rw [if_neg h34] at h
      rcases hone : one (l.drop i) with ⟨_ | ⟨c, n⟩, m⟩
      · rw [hone] at h; simp at h
      · rw [hone] at h
        simp only at h
        have := unq_more f l (i + n) _ y k hb h
        omega
/-- up to the fault all goes as it would go, whatever stands behind the cut -/
theorem unq_fault : ∀ (f : Nat) (l : List Nat) (i : Nat) (out y : List Nat) (k e : Nat), Bytes l → i ≤ l.length → l.length < f + i → e ≠ 0 → unq l f i out = (y, k, e) →
    y = [] ∧ e = 10 ∧ i ≤ k ∧ k ≤ l.length ∧ ∃ (j : Nat) (far : Nat), i ≤ j ∧ j + far = k ∧ one (l.drop j) = (none, far) ∧
      ∀ (x : List Nat) (f' : Nat), k + x.length < f' + i → ∃ (f'' : Nat) (o : List Nat), k + x.length < f'' + j ∧ unq (l.take k ++ x) f' i out = unq (l.take k ++ x) f'' j o
  | 0, l, i, out, y, k, e, _, hi, hf, _, _ => absurd hf (by omega)
  | f + 1, l, i, out, y, k, e, hb, hi, hf, he, h => by
    rw [unq] at h
    by_cases h34 : l[i]? = some 34
    · rw [if_pos h34] at h
      simp only [Prod.mk.injEq] at h
      exact absurd h.2.2.symm he
    · rw [if_neg h34] at h
      rcases hone : one (l.drop i) with ⟨_ | ⟨c, n⟩, m⟩
      · rw [hone] at h
        simp only [Prod.mk.injEq] at h
        obtain ⟨rfl, rfl, rfl⟩ := h
        have hfar := one_far hone
        rw [List.length_drop] at hfar
        exact ⟨rfl, rfl, by omega, by omega, i, m, Nat.le_refl _, rfl, hone, fun x f' hf' => ⟨f', out, hf', rfl⟩⟩
      · rw [hone] at h
        simp only at h
        obtain ⟨hc, hn, t, hd⟩ := one_some (fun x hx => hb x (List.mem_of_mem_drop hx)) (by rw [List.head?_drop]; exact h34) hone
        have hlen := congrArg List.length hd
        rw [List.length_drop, List.length_append] at hlen
        have hfl := form_len c
        obtain ⟨g1, g2, g3, g4, j, far, g5, g6, g7, g8⟩ := unq_fault f l (i + n) (out ++ [c]) y k e hb (by omega) (by omega) he h
        refine ⟨g1, g2, by omega, g4, j, far, by omega, g6, g7, fun x f' hf' => ?_⟩
        obtain ⟨f', rfl⟩ : ∃ q, f' = q + 1 := ⟨f' - 1, by omega⟩
        obtain ⟨f'', o, q1, q2⟩ := g8 x f' (by omega)
        refine ⟨f'', o, q1, ?_⟩
        have hdrop : (l.take k ++ x).drop i = formN c ++ ((t.take (k - (i + n))) ++ x) := by
          rw [List.drop_append_of_le_length (by rw [List.length_take]; omega), List.drop_take, hd]
          rw [List.take_append, List.take_of_length_le (by omega), List.append_assoc]
          congr 3
          omega
        have h34' : (l.take k ++ x)[i]? ≠ some 34 := by
          rw [← List.head?_drop, hdrop]
          rw [← List.head?_drop, hd] at h34
          rw [List.head?_append] at h34 ⊢
          cases hq : (formN c).head? with
          | none => rw [List.head?_eq_none_iff] at hq; rw [hq] at hfl; simp at hfl
          | some z => rw [hq] at h34; simpa using h34
        have ho := one_of_form hc ((t.take (k - (i + n))) ++ x)
        rw [← hdrop] at ho
        rw [unq, if_neg h34', ho]
        simp only
        rw [← hn]
        exact q2

theorem stops_ok {l : List Nat} {a : Nat} {y : List Nat} {k : Int} (hb : Bytes l) (ha : a ≤ l.length) (h : unquoteN l a = (y, k, 0)) : ∃ k' : Nat, k = (k' : Int) ∧ a + 1 < k' ∧ k' ≤ l.length := by
  unfold unquoteN at h
  rw [if_neg (by omega), Int.toNat_natCast] at h
  by_cases h34 : l[a]? ≠ some 34
  · rw [if_pos h34] at h; simp at h
  · rw [if_neg h34] at h
    simp only [Prod.mk.injEq] at h
    obtain ⟨_, e2, e3⟩ := h
    rcases hu : unq l (l.length + 1) (a + 1) [] with ⟨p, q, r⟩
    rw [hu] at e2 e3
    simp only at e2 e3
    subst e3
    exact ⟨q, e2.symm, unq_more _ l (a + 1) [] p q hb hu⟩
theorem stops_no {l : List Nat} {a : Nat} {y : List Nat} {k : Int} {e : Nat} (hb : Bytes l) (ha : a ≤ l.length) (he : e ≠ 0) (h : unquoteN l a = (y, k, e)) :
    ∃ k' : Nat, k = (k' : Int) ∧ y = [] ∧ e = 10 ∧ a ≤ k' ∧ k' ≤ l.length ∧ unquoteN (l.take k') a = ([], (k' : Int), 10) ∧ ∃ x ∈ ends, ∃ o, unquoteN (l.take k' ++ x) a = (o, ((k' + x.length : Nat) : Int), 0) := by
  unfold unquoteN at h
  rw [if_neg (by omega), Int.toNat_natCast] at h
  by_cases h34 : l[a]? = some 34
  · rw [if_neg (by simpa using h34)] at h
    simp only [Prod.mk.injEq] at h
    obtain ⟨e1, e2, e3⟩ := h
    have hlt := (List.getElem?_eq_some_iff.1 h34).1
    rcases hu : unq l (l.length + 1) (a + 1) [] with ⟨p, q, r⟩
    rw [hu] at e1 e2 e3
    simp only at e1 e2 e3
    subst e1 e3
    obtain ⟨g1, g2, g3, g4, j, far, g5, g6, g7, g8⟩ := unq_fault _ l (a + 1) [] p q r hb (by omega) (by omega) he hu
    have htk : (l.take q).length = q := by rw [List.length_take]; omega
    have hq34 : ∀ x : List Nat, (l.take q ++ x)[a]? = some 34 := fun x => by
      rw [List.getElem?_append_left (by omega), List.getElem?_take_of_lt (by omega)]; exact h34
    have hun : ∀ x : List Nat, unquoteN (l.take q ++ x) a = ((unq (l.take q ++ x) (q + x.length + 1) (a + 1) []).1, ((unq (l.take q ++ x) (q + x.length + 1) (a + 1) []).2.1 : Int), (unq (l.take q ++ x) (q + x.length + 1) (a + 1) []).2.2) := fun x => by
      have hl : (l.take q ++ x).length = q + x.length := by rw [List.length_append, htk]
      unfold unquoteN
      rw [if_neg (by omega), Int.toNat_natCast, if_neg (by simp [hq34 x]), hl]
    have hdr : ∀ x : List Nat, (l.take q ++ x).drop j = (l.drop j).take far ++ x := fun x => by
      rw [List.drop_append_of_le_length (by omega), List.drop_take]
      congr 2
      omega
    obtain ⟨s1, s2⟩ := stop_cut g7
    have hfl := one_far g7
    rw [List.length_drop] at hfl
    have hrl : ((l.drop j).take far).length = far := by rw [List.length_take, List.length_drop]; omega
    refine ⟨q, e2.symm, g1, g2, by omega, g4, ?_, ?_⟩
    · obtain ⟨f'', o, q1, q2⟩ := g8 [] (q + ([] : List Nat).length + 1) (by simp; omega)
      have hu0 := hun []
      have hd0 := hdr []
      rw [List.append_nil] at hu0 hd0 q2
      have hstop : unq (l.take q) f'' j o = ([], j + far, 10) := by
        refine unq_stop rfl (by simp at q1; omega) ?_ (hd0 ▸ by rw [List.append_nil]; exact s1)
        rw [← List.head?_drop, hd0, List.append_nil]
        intro hx
        have h1 : ((l.drop j).take far).head? = (l.drop j).head? := by
          cases far with
          | zero => simp at hx
          | succ n => cases l.drop j <;> rfl
        rw [h1] at hx
        -- the remainder begins with no quote: it would be read
        cases hdj : l.drop j with
        | nil => rw [hdj] at hx; simp at hx
        | cons z w =>
          rw [hdj] at hx g7
          simp at hx
          subst hx
          simp [one] at g7
      rw [hu0, q2, hstop, g6]
    · rcases s2 with s2 | ⟨x, hx, c, n, m, s0, s2, s3, s4⟩
      · subst s2
        refine ⟨[34], by simp [ends], ?_⟩
        obtain ⟨f'', o, q1, q2⟩ := g8 [34] (q + [34].length + 1) (by simp; omega)
        have hi : (l.take q ++ [34])[j]? = some 34 := by
          rw [List.getElem?_append_right (by omega), htk, show j - q = 0 by omega]; rfl
        have hend := unq_end (R := unq (l.take q ++ [34]) f'' j o) rfl (by simp at q1; omega) hi
        refine ⟨o, ?_⟩
        rw [hun [34], q2, hend]
        simp only [Prod.mk.injEq, true_and, and_true]
        simp
        omega
      · obtain ⟨f'', o, q1, q2⟩ := g8 x (q + x.length + 1) (by omega)
        have hj34 : (l.take q ++ x)[j]? ≠ some 34 := by
          rw [← List.head?_drop, hdr x]
          rw [List.head?_append, s0]
          simp
        have hst := unq_step (R := unq (l.take q ++ x) f'' j o) rfl (by omega) hj34 (by rw [hdr x]; exact s2)
        have hi : (l.take q ++ x)[j + n]? = some 34 := by
          have := s4
          rw [← hdr x, List.getElem?_drop] at this
          exact this
        have hend := unq_end hst (by omega) hi
        refine ⟨x, hx, o ++ [c], ?_⟩
        rw [hun x, q2, hend]
        simp only [Prod.mk.injEq, true_and, and_true]
        omega
  · rw [if_pos h34] at h
    simp only [Prod.mk.injEq] at h
    obtain ⟨rfl, rfl, rfl⟩ := h
    have htk : (l.take a).length = a := by rw [List.length_take]; omega
    refine ⟨a, rfl, rfl, rfl, Nat.le_refl _, ha, ?_, [34, 34], by simp [ends], [], ?_⟩
    · unfold unquoteN
      rw [if_neg (by omega), Int.toNat_natCast, if_pos (by rw [List.getElem?_eq_none (by omega)]; simp)]
    · have h1 : (l.take a ++ [34, 34])[a]? = some 34 := by
        rw [List.getElem?_append_right (by omega), htk, Nat.sub_self]; rfl
      have h2 : (l.take a ++ [34, 34])[a + 1]? = some 34 := by
        rw [List.getElem?_append_right (by omega), htk, show a + 1 - a = 1 by omega]; rfl
      have hl : (l.take a ++ [34, 34]).length = a + 2 := by rw [List.length_append, htk]; rfl
      have hend := unq_end (R := unq (l.take a ++ [34, 34]) ((l.take a ++ [34, 34]).length + 1) (a + 1) []) rfl (by omega) h2
      unfold unquoteN
      rw [if_neg (by omega), Int.toNat_natCast, if_neg (by simp [h1]), hend]
      simp only [Prod.mk.injEq, true_and, and_true]
      simp
      omega
end Go.Proofs.YtffhogadgjnkkaaDoor
