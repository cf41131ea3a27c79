/- The scanner's plain reading by what is left of a text: what stands behind a token says nothing of it. -/
import Derived.Test.YtlenenfgedgmhaaDoorJoinPlain
namespace Go.Proofs.YtlenenfgedgmhaaDoor
set_option linter.unusedSimpArgs false
set_option linter.unusedVariables false

/-- a text in quotes, from behind its first quote on: what it says and how many bytes, or how many are right -/
def qS : Nat → List Nat → Option (List Nat) × Nat
  | 0, _ => (none, 0)
  | f + 1, r => if r.head? = some 34 then (some [], 1) else match one r with
    | (some (c, n), _) => ((qS f (r.drop n)).1.map (c :: ·), n + (qS f (r.drop n)).2)
    | (none, far) => (none, far)
def qR (r : List Nat) : Option (List Nat) × Nat := qS (r.length + 1) r

theorem bytes_drop {l : List Nat} (h : Bytes l) (n : Nat) : Bytes (l.drop n) := fun x hx => h x (List.mem_of_mem_drop hx)
theorem bytes_take {l : List Nat} (h : Bytes l) (n : Nat) : Bytes (l.take n) := fun x hx => h x (List.mem_of_mem_take hx)
theorem one_len {r : List Nat} (hr : Bytes r) (h34 : r.head? ≠ some 34) {c n m : Nat} (h : one r = (some (c, n), m)) : 1 ≤ n ∧ n ≤ r.length := by
  obtain ⟨_, h2, t, h3⟩ := one_some hr h34 h
  have := (form_len c).1
  rw [h3, List.length_append]
  omega
theorem qS_enough : ∀ (f f' : Nat) (r : List Nat), Bytes r → r.length < f → r.length < f' → qS f r = qS f' r
  | 0, _, r, _, h, _ => by omega
  | _, 0, r, _, _, h => by omega
  | f + 1, f' + 1, r, hr, h, h' => by
    rw [qS, qS]
    split
    · rfl
    · rename_i h34
      split
      · rename_i c n m hone
        have := one_len hr h34 hone
        rw [qS_enough f f' (r.drop n) (bytes_drop hr n) (by rw [List.length_drop]; omega) (by rw [List.length_drop]; omega)]
      · rfl
theorem qR_end {r : List Nat} (h : r.head? = some 34) : qR r = (some [], 1) := by
  unfold qR
  rw [qS, if_pos h]
theorem qR_stop {r : List Nat} {far : Nat} (h : r.head? ≠ some 34) (ho : one r = (none, far)) : qR r = (none, far) := by
  unfold qR
  rw [qS, if_neg h, ho]
theorem qR_step {r : List Nat} (hr : Bytes r) {c n m : Nat} (h : r.head? ≠ some 34) (ho : one r = (some (c, n), m)) : qR r = ((qR (r.drop n)).1.map (c :: ·), n + (qR (r.drop n)).2) := by
  have hl := one_len hr h ho
  unfold qR
  rw [qS, if_neg h, ho]
  simp only
  rw [qS_enough _ ((r.drop n).length + 1) (r.drop n) (bytes_drop hr n) (by rw [List.length_drop]; omega) (by omega)]
theorem unq_qS : ∀ (f i : Nat) (l o : List Nat), Bytes l → (l.drop i).length < f → unq l f i o = match qR (l.drop i) with
    | (some s, n) => (o ++ s, i + n, 0)
    | (none, n) => ([], i + n, 10)
  | 0, i, l, o, hl, h => by omega
  | f + 1, i, l, o, hl, h => by
    have hb := bytes_drop hl i
    rw [unq]
    by_cases h34 : l[i]? = some 34
    · rw [if_pos h34, qR_end (by rw [List.head?_drop]; exact h34)]
      simp
    · rw [if_neg h34]
      have h34' : (l.drop i).head? ≠ some 34 := by rw [List.head?_drop]; exact h34
      cases ho : one (l.drop i) with
      | mk a far =>
        cases a with
        | none => rw [qR_stop h34' ho]
        | some p =>
          obtain ⟨c, n⟩ := p
          have hn := one_len hb h34' ho
          rw [qR_step hb h34' ho]
          simp only
          rw [unq_qS f (i + n) l (o ++ [c]) hl (by rw [List.length_drop] at h hn ⊢; omega)]
          rw [List.drop_drop]
          cases hq : qR (l.drop (i + n)) with
          | mk a k =>
            cases a with
            | none => simp [Nat.add_assoc]
            | some s => simp [Nat.add_assoc]

theorem qR_bound : ∀ (N : Nat) (r : List Nat), r.length ≤ N → Bytes r → ∀ s n, qR r = (some s, n) → 1 ≤ n ∧ n ≤ r.length ∧ Bytes s ∧ ∃ p, r.take n = p ++ [34] ∧ p = s.flatMap formN
  | 0, r, hN, hr, s, n, h => by
    have : r = [] := List.eq_nil_of_length_eq_zero (by omega)
    subst this
    rw [qR_stop (far := 0) (by simp) rfl] at h
    cases h
  | N + 1, r, hN, hr, s, n, h => by
    by_cases h34 : r.head? = some 34
    · rw [qR_end h34] at h
      cases h
      cases r with
      | nil => cases h34
      | cons a t => injection h34 with h34; subst h34; exact ⟨Nat.le_refl _, by simp, bytes_nil, [], by simp, rfl⟩
    · cases ho : one r with
      | mk a far =>
        cases a with
        | none => rw [qR_stop h34 ho] at h; cases h
        | some q =>
          obtain ⟨c, m⟩ := q
          obtain ⟨c256, hm, t, ht⟩ := one_some hr h34 ho
          have hl := one_len hr h34 ho
          rw [qR_step hr h34 ho] at h
          cases hq : qR (r.drop m) with
          | mk a k =>
            rw [hq] at h
            cases a with
            | none => cases h
            | some s' =>
              cases h
              obtain ⟨h1, h2, h3, p, h4, h5⟩ := qR_bound N (r.drop m) (by rw [List.length_drop]; omega) (bytes_drop hr m) s' k hq
              rw [List.length_drop] at h2
              refine ⟨by omega, by omega, fun x hx => ?_, formN c ++ p, ?_, by rw [List.flatMap_cons, h5]⟩
              · rcases List.mem_cons.1 hx with rfl | hx
                · exact c256
                · exact h3 x hx
              · have e : r.take m = formN c := by rw [ht, hm, List.take_left]
                rw [List.take_add, e, h4, List.append_assoc]
/-- a text's form in quotes is read as the text -/
theorem qR_of_form : ∀ (s y : List Nat), Bytes s → Bytes y → qR (s.flatMap formN ++ 34 :: y) = (some s, (s.flatMap formN).length + 1)
  | [], y, _, _ => by rw [List.flatMap_nil, List.nil_append, qR_end rfl]; rfl
  | c :: s, y, hs, hy => by
    have c256 : c < 256 := hs c (by simp)
    have hs' : Bytes s := fun x hx => hs x (List.mem_cons_of_mem _ hx)
    have hb : Bytes (s.flatMap formN ++ 34 :: y) := by
      intro x hx
      rcases List.mem_append.1 hx with hx | hx
      · obtain ⟨a, ha, hx⟩ := List.mem_flatMap.1 hx
        exact formN_bytes a (hs' a ha) x hx
      · rcases List.mem_cons.1 hx with rfl | hx
        · omega
        · exact hy x hx
    rw [List.flatMap_cons, List.append_assoc]
    have ho := one_of_form c256 (s.flatMap formN ++ 34 :: y)
    have h34 : (formN c ++ (s.flatMap formN ++ 34 :: y)).head? ≠ some 34 := by
      rcases form_cases c with ⟨_, h⟩ | ⟨_, h⟩ | ⟨_, h⟩ | ⟨h1, h2, h3, h4, h⟩ | ⟨_, h⟩ <;> rw [h] <;> simp
      exact h3
    rw [qR_step (bytes_app (formN_bytes c c256) hb) h34 ho, List.drop_left, qR_of_form s y hs' hy]
    simp [List.length_append, Nat.add_assoc]
/-- what stands behind it says nothing of it -/
theorem qR_local {r s : List Nat} {n : Nat} (hr : Bytes r) (h : qR r = (some s, n)) (y : List Nat) (hy : Bytes y) : qR (r.take n ++ y) = (some s, n) := by
  obtain ⟨h1, h2, h3, p, h4, h5⟩ := qR_bound r.length r (Nat.le_refl _) hr s n h
  rw [h4, h5, List.append_assoc]
  have := qR_of_form s y h3 hy
  have hl : (s.flatMap formN).length + 1 = n := by
    have := congrArg List.length h4
    rw [List.length_take, List.length_append, h5] at this
    simp at this
    simp
    omega
  rw [hl] at this
  exact this
theorem common_app : ∀ (l r s : List Nat), common l r ≤ common l (r ++ s)
  | [], r, s => by simp [common]
  | a :: l, [], s => by simp [common]
  | a :: l, b :: r, s => by
    simp only [common, List.cons_append]
    split
    · have := common_app l r s; omega
    · exact Nat.le_refl _
theorem common_le_right : ∀ (l r : List Nat), common l r ≤ r.length
  | [], r => by simp [common]
  | a :: l, [] => by simp [common]
  | a :: l, b :: r => by
    simp only [common, List.length_cons]
    split
    · have := common_le_right l r; omega
    · omega
theorem common_eq_take : ∀ (l r : List Nat), l.take (common l r) = r.take (common l r)
  | [], r => by simp [common]
  | a :: l, [] => by simp [common]
  | a :: l, b :: r => by
    simp only [common]
    split
    · rename_i h
      subst h
      rw [List.take_succ_cons, List.take_succ_cons, common_eq_take l r]
    · rfl
theorem common_self_take : ∀ (l r : List Nat), common l (r.take (common l r)) = common l r
  | [], r => by simp [common]
  | a :: l, [] => by simp [common]
  | a :: l, b :: r => by
    by_cases h : a = b
    · have e : common (a :: l) (b :: r) = common l r + 1 := by simp [common, h]
      rw [e, List.take_succ_cons]
      have e2 : common (a :: l) (b :: r.take (common l r)) = common l (r.take (common l r)) + 1 := by simp [common, h]
      rw [e2, common_self_take l r]
    · have e : common (a :: l) (b :: r) = 0 := by simp [common, h]
      rw [e]
      simp [common]
theorem one_far_le {r : List Nat} (hr : Bytes r) {far : Nat} (h : one r = (none, far)) : far ≤ r.length := by
  obtain ⟨_, c, _, hc⟩ := one_none hr h
  rw [← hc]
  exact common_le_right _ _
/-- a text that is refused: with more behind it, it is refused no sooner -/
theorem qR_more : ∀ (N : Nat) (r : List Nat), r.length ≤ N → Bytes r → ∀ n, qR r = (none, n) → ∀ y, Bytes y → y.head? ≠ some 34 → n ≤ (qR (r ++ y)).2
  | N, r, hN, hr, n, h, y, hy, hy34 => by
    by_cases h34 : r.head? = some 34
    · rw [qR_end h34] at h; cases h
    · have h34' : (r ++ y).head? ≠ some 34 := by
        cases r with
        | nil => simpa using hy34
        | cons a t => simpa using h34
      have hry := bytes_app hr hy
      cases ho : one r with
      | mk a far =>
        cases a with
        | none =>
          rw [qR_stop h34 ho] at h
          cases h
          obtain ⟨hle, c, c256, hc⟩ := one_none hr ho
          have hfl := one_far_le hr ho
          cases ho2 : one (r ++ y) with
          | mk a2 far2 =>
            cases a2 with
            | none =>
              rw [qR_stop h34' ho2]
              obtain ⟨hle2, _⟩ := one_none hry ho2
              have := hle2 c c256
              have := common_app (formN c) r y
              show n ≤ far2
              omega
            | some q =>
              obtain ⟨c', k'⟩ := q
              obtain ⟨c256', hk', t, ht⟩ := one_some hry h34' ho2
              rw [qR_step hry h34' ho2]
              show n ≤ k' + _
              rcases Nat.lt_or_ge k' n with hlt | hge
              · exfalso
                have e : r = formN c' ++ r.drop k' := by
                  have h1 : (r ++ y).take k' = formN c' := by rw [ht, hk', List.take_left]
                  rw [List.take_append_of_le_length (by omega)] at h1
                  conv => lhs; rw [← List.take_append_drop k' r, h1]
                rw [e, one_of_form c256' _] at ho
                cases ho
              · omega
        | some q =>
          obtain ⟨c, k⟩ := q
          obtain ⟨c256, hk, t, ht⟩ := one_some hr h34 ho
          have hl := one_len hr h34 ho
          rw [qR_step hr h34 ho] at h
          cases hq : qR (r.drop k) with
          | mk a n' =>
            rw [hq] at h
            cases a with
            | some s => cases h
            | none =>
              cases h
              have ho2 : one (r ++ y) = (some (c, k), k) := by
                rw [ht, List.append_assoc, one_of_form c256, hk]
              rw [qR_step hry h34' ho2]
              have hd : (r ++ y).drop k = r.drop k ++ y := List.drop_append_of_le_length hl.2
              rw [hd]
              cases N with
              | zero => omega
              | succ N =>
                have := qR_more N (r.drop k) (by rw [List.length_drop]; omega) (bytes_drop hr k) n' hq y hy hy34
                show k + n' ≤ k + _
                omega
theorem hidden_15 {c : Nat} (hc : c < 256) (h : hiddenN c = true) : hiddenN (16 * (c / 16) + 15) = true := by
  have : ∀ c : Fin 256, hiddenN c.1 = true → hiddenN (16 * (c.1 / 16) + 15) = true := by decide +kernel
  exact this ⟨c, hc⟩ h
/-- where a form is broken off, one of some ends makes it whole -/
theorem form_ends {c : Nat} (hc : c < 256) {k : Nat} (hk : k < (formN c).length) : ∃ x ∈ [[34], [110, 34], [102, 102, 34], [102, 34]], ∃ s : List Nat, Bytes s ∧ (formN c).take k ++ x = s.flatMap formN ++ [34] := by
  have f10 : formN 10 = [92, 110] := by decide
  have f255 : formN 255 = [92, 120, 102, 102] := by decide
  rcases Nat.eq_zero_or_pos k with rfl | hk0
  · exact ⟨[34], by simp, [], bytes_nil, rfl⟩
  · rcases form_cases c with ⟨_, h⟩ | ⟨_, h⟩ | ⟨_, h⟩ | ⟨_, _, _, _, h⟩ | ⟨hh, h⟩
    all_goals rw [h] at hk ⊢
    all_goals simp only [List.length_cons, List.length_nil] at hk
    · obtain rfl : k = 1 := by omega
      exact ⟨[110, 34], by simp, [10], fun x hx => by simp at hx; omega, by simp [f10]⟩
    · obtain rfl : k = 1 := by omega
      exact ⟨[110, 34], by simp, [10], fun x hx => by simp at hx; omega, by simp [f10]⟩
    · obtain rfl : k = 1 := by omega
      exact ⟨[110, 34], by simp, [10], fun x hx => by simp at hx; omega, by simp [f10]⟩
    · omega
    · have hk3 : k = 1 ∨ k = 2 ∨ k = 3 := by omega
      rcases hk3 with rfl | rfl | rfl
      · exact ⟨[110, 34], by simp, [10], fun x hx => by simp at hx; omega, by simp [f10]⟩
      · exact ⟨[102, 102, 34], by simp, [255], fun x hx => by simp at hx; omega, by simp [f255]⟩
      · have h15 := hidden_15 hc hh
        have f15 := form_hidden h15
        have e1 : (16 * (c / 16) + 15) / 16 = c / 16 := by omega
        have e2 : (16 * (c / 16) + 15) % 16 = 15 := by omega
        rw [e1, e2] at f15
        exact ⟨[102, 34], by simp, [16 * (c / 16) + 15], fun x hx => by simp at hx; omega, by simp [f15]; decide⟩
/-- cut at the place up to which it was right -/
theorem qR_cut : ∀ (N : Nat) (r : List Nat), r.length ≤ N → Bytes r → ∀ n, qR r = (none, n) → n ≤ r.length ∧ qR (r.take n) = (none, n) ∧ ∃ x ∈ [[34], [110, 34], [102, 102, 34], [102, 34]], ∃ s, qR (r.take n ++ x) = (some s, n + x.length)
  | N, r, hN, hr, n, h => by
    by_cases h34 : r.head? = some 34
    · rw [qR_end h34] at h; cases h
    · cases ho : one r with
      | mk a far =>
        cases a with
        | none =>
          rw [qR_stop h34 ho] at h
          cases h
          obtain ⟨hle, c, c256, hc⟩ := one_none hr ho
          have hfl := one_far_le hr ho
          have hpc : r.take n = (formN c).take n := by rw [← hc, common_eq_take]
          have hnl : n < (formN c).length := by
            have h1 := common_le_left (formN c) r
            rcases Nat.lt_or_ge n (formN c).length with hlt | hge
            · exact hlt
            · exfalso
              obtain ⟨t, ht⟩ := common_full (formN c) r (by omega)
              rw [ht, one_of_form c256] at ho
              cases ho
          refine ⟨hfl, ?_, ?_⟩
          · have hp34 : (r.take n).head? ≠ some 34 := by
              cases n with
              | zero => simp
              | succ n =>
                cases r with
                | nil => simp
                | cons a t => simpa using h34
            have hpb := bytes_take hr n
            cases ho2 : one (r.take n) with
            | mk a2 far2 =>
              cases a2 with
              | some q =>
                exfalso
                obtain ⟨c', k'⟩ := q
                obtain ⟨c256', hk', t, ht⟩ := one_some hpb hp34 ho2
                have e : r = formN c' ++ (t ++ r.drop n) := by rw [← List.append_assoc, ← ht, List.take_append_drop]
                rw [e, one_of_form c256'] at ho
                cases ho
              | none =>
                rw [qR_stop hp34 ho2]
                obtain ⟨hle2, c2, _, hc2⟩ := one_none hpb ho2
                have h1 := common_le_right (formN c2) (r.take n)
                rw [List.length_take] at h1
                have h2 := hle2 c c256
                have h3 : common (formN c) (r.take n) = n := by
                  have := common_self_take (formN c) r
                  rw [hc] at this
                  exact this
                rw [h3] at h2
                congr 1
                omega
          · obtain ⟨x, hx, s, hs, e⟩ := form_ends c256 hnl
            refine ⟨x, hx, s, ?_⟩
            rw [hpc, e]
            have := qR_of_form s [] hs bytes_nil
            rw [this]
            have hl := congrArg List.length e
            rw [List.length_append, List.length_append, List.length_take] at hl
            simp at hl
            congr 1
            simp
            omega
        | some q =>
          obtain ⟨c, k⟩ := q
          obtain ⟨c256, hk, t, ht⟩ := one_some hr h34 ho
          have hl := one_len hr h34 ho
          rw [qR_step hr h34 ho] at h
          cases hq : qR (r.drop k) with
          | mk a n' =>
            rw [hq] at h
            cases a with
            | some s => cases h
            | none =>
              cases h
              cases N with
              | zero => omega
              | succ N =>
                obtain ⟨i1, i2, x, hx, s, i3⟩ := qR_cut N (r.drop k) (by rw [List.length_drop]; omega) (bytes_drop hr k) n' hq
                rw [List.length_drop] at i1
                have e : r.take (k + n') = formN c ++ (r.drop k).take n' := by
                  rw [List.take_add]
                  congr 1
                  rw [ht, hk, List.take_left]
                have hfl : (formN c).length = k := hk.symm
                have hh34 : ∀ z, (formN c ++ z).head? ≠ some 34 := fun z => by
                  cases hf : formN c with
                  | nil => rw [hf] at hfl; simp at hfl; omega
                  | cons a u => rw [ht, hf] at h34; simpa using h34
                have hb2 := bytes_app (formN_bytes c c256) (bytes_take (bytes_drop hr k) n')
                have hbx : Bytes x := by
                  have : ∀ x ∈ ([[34], [110, 34], [102, 102, 34], [102, 34]] : List (List Nat)), ∀ z ∈ x, z < 256 := by decide
                  exact this x hx
                refine ⟨by omega, ?_, x, hx, c :: s, ?_⟩
                · rw [e, qR_step hb2 (hh34 _) (one_of_form c256 _), List.drop_left, i2, hfl]
                  rfl
                · rw [e, List.append_assoc, qR_step (bytes_app (formN_bytes c c256) (bytes_app (bytes_take (bytes_drop hr k) n') hbx)) (hh34 _) (one_of_form c256 _), List.drop_left, i3, hfl]
                  simp [Nat.add_assoc]
end Go.Proofs.YtlenenfgedgmhaaDoor
