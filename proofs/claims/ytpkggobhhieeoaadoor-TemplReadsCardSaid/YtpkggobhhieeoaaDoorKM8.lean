/- - - - - - - - -/
import Derived.Test.YtpkggobhhieeoaaDoorKM2
import Derived.Test.YtpkggobhhieeoaaDoorKM3
import Derived.Test.YtpkggobhhieeoaaDoorKM7
import Derived.Test.YtpkggobhhieeoaaDoorKM6
set_option maxRecDepth 100000
set_option maxHeartbeats 32000000
set_option linter.unusedSimpArgs false
set_option linter.unusedVariables false
namespace Go.Proofs.YtpkggobhhieeoaaDoor
def qS : Nat → List Nat → Option (List Nat) × Nat
  | 0, _ => (none, 0)
  | f + 1, r => if r.head? = some 34 then (some [], 1) else match one r with
    | (some (c, n), _) => ((qS f (r.drop n)).1.map (c :: ·), n + (qS f (r.drop n)).2)
    | (none, far) => (none, far)
def qR (r : List Nat) : Option (List Nat) × Nat := qS (r.length + 1) r
theorem bytes_drop {l : List Nat} (h : Bytes l) (n : Nat) : Bytes (l.drop n) := fun x hx => h x (List.mem_of_mem_drop hx)
theorem bytes_take {l : List Nat} (h : Bytes l) (n : Nat) : Bytes (l.take n) := fun x hx => h x (List.mem_of_mem_take hx)
theorem one_len {r : List Nat} (hr : Bytes r) (h34 : r.head? ≠ some 34) {c n m : Nat} (h : one r = (some (c, n), m)) : 1 ≤ n ∧ n ≤ r.length := by
  obtain ⟨_, h2, t, h3⟩ := one_some hr h34 h
  have := (form_len c).1
  rw [h3, List.length_append]
  omega
theorem qS_enough : ∀ (f f' : Nat) (r : List Nat), Bytes r → r.length < f → r.length < f' → qS f r = qS f' r
  | 0, _, r, _, h, _ => by omega
  | _, 0, r, _, _, h => by omega
  | f + 1, f' + 1, r, hr, h, h' => by
    rw [qS, qS]
    split
    · rfl
    · rename_i h34
      split
      · rename_i c n m hone
        have := one_len hr h34 hone
        rw [qS_enough f f' (r.drop n) (bytes_drop hr n) (by rw [List.length_drop]; omega) (by rw [List.length_drop]; omega)]
      · rfl
theorem qR_end {r : List Nat} (h : r.head? = some 34) : qR r = (some [], 1) := by
  unfold qR
  rw [qS, if_pos h]
theorem qR_stop {r : List Nat} {far : Nat} (h : r.head? ≠ some 34) (ho : one r = (none, far)) : qR r = (none, far) := by
  unfold qR
  rw [qS, if_neg h, ho]
theorem qR_step {r : List Nat} (hr : Bytes r) {c n m : Nat} (h : r.head? ≠ some 34) (ho : one r = (some (c, n), m)) : qR r = ((qR (r.drop n)).1.map (c :: ·), n + (qR (r.drop n)).2) := by
  have hl := one_len hr h ho
  unfold qR
  rw [qS, if_neg h, ho]
  simp only
  rw [qS_enough _ ((r.drop n).length + 1) (r.drop n) (bytes_drop hr n) (by rw [List.length_drop]; omega) (by omega)]
theorem unq_qS : ∀ (f i : Nat) (l o : List Nat), Bytes l → (l.drop i).length < f → unq l f i o = match qR (l.drop i) with
    | (some s, n) => (o ++ s, i + n, 0)
    | (none, n) => ([], i + n, 10)
  | 0, i, l, o, hl, h => by omega
  | f + 1, i, l, o, hl, h => by
    have hb := bytes_drop hl i
    rw [unq]
    by_cases h34 : l[i]? = some 34
    · rw [if_pos h34, qR_end (by rw [List.head?_drop]; exact h34)]
      simp
    · rw [if_neg h34]
      have h34' : (l.drop i).head? ≠ some 34 := by rw [List.head?_drop]; exact h34
      cases ho : one (l.drop i) with
      | mk a far =>
        cases a with
        | none => rw [qR_stop h34' ho]
        | some p =>
          obtain ⟨c, n⟩ := p
          have hn := one_len hb h34' ho
          rw [qR_step hb h34' ho]
          simp only
          rw [unq_qS f (i + n) l (o ++ [c]) hl (by rw [List.length_drop] at h hn ⊢; omega)]
          rw [List.drop_drop]
          cases hq : qR (l.drop (i + n)) with
          | mk a k =>
            cases a with
            | none => simp [Nat.add_assoc]
            | some s => simp [Nat.add_assoc]
theorem qR_bound : ∀ (N : Nat) (r : List Nat), r.length ≤ N → Bytes r → ∀ s n, qR r = (some s, n) → 1 ≤ n ∧ n ≤ r.length ∧ Bytes s ∧ ∃ p, r.take n = p ++ [34] ∧ p = s.flatMap formN
  | 0, r, hN, hr, s, n, h => by
    have : r = [] := List.eq_nil_of_length_eq_zero (by omega)
    subst this
    rw [qR_stop (far := 0) (by simp) rfl] at h
    cases h
  | N + 1, r, hN, hr, s, n, h => by
    by_cases h34 : r.head? = some 34
    · rw [qR_end h34] at h
      cases h
      cases r with
      | nil => cases h34
      | cons a t => injection h34 with h34; subst h34; exact ⟨Nat.le_refl _, by simp, bytes_nil, [], by simp, rfl⟩
    · cases ho : one r with
      | mk a far =>
        cases a with
        | none => rw [qR_stop h34 ho] at h; cases h
        | some q =>
          obtain ⟨c, m⟩ := q
          obtain ⟨c256, hm, t, ht⟩ := one_some hr h34 ho
          have hl := one_len hr h34 ho
          rw [qR_step hr h34 ho] at h
          cases hq : qR (r.drop m) with
          | mk a k =>
            rw [hq] at h
            cases a with
            | none => cases h
            | some s' =>
              cases h
              obtain ⟨h1, h2, h3, p, h4, h5⟩ := qR_bound N (r.drop m) (by rw [List.length_drop]; omega) (bytes_drop hr m) s' k hq
              rw [List.length_drop] at h2
              refine ⟨by omega, by omega, fun x hx => ?_, formN c ++ p, ?_, by rw [List.flatMap_cons, h5]⟩
              · rcases List.mem_cons.1 hx with rfl | hx
                · exact c256
                · exact h3 x hx
              · have e : r.take m = formN c := by rw [ht, hm, List.take_left]
                rw [List.take_add, e, h4, List.append_assoc]
theorem qR_of_form : ∀ (s y : List Nat), Bytes s → Bytes y → qR (s.flatMap formN ++ 34 :: y) = (some s, (s.flatMap formN).length + 1)
  | [], y, _, _ => by rw [List.flatMap_nil, List.nil_append, qR_end rfl]; rfl
  | c :: s, y, hs, hy => by
    have c256 : c < 256 := hs c (by simp)
    have hs' : Bytes s := fun x hx => hs x (List.mem_cons_of_mem _ hx)
    have hb : Bytes (s.flatMap formN ++ 34 :: y) := by
      intro x hx
      rcases List.mem_append.1 hx with hx | hx
      · obtain ⟨a, ha, hx⟩ := List.mem_flatMap.1 hx
        exact formN_bytes a (hs' a ha) x hx
      · rcases List.mem_cons.1 hx with rfl | hx
        · omega
        · exact hy x hx
    rw [List.flatMap_cons, List.append_assoc]
    have ho := one_of_form c256 (s.flatMap formN ++ 34 :: y)
    have h34 : (formN c ++ (s.flatMap formN ++ 34 :: y)).head? ≠ some 34 := by
      rcases form_cases c with ⟨_, h⟩ | ⟨_, h⟩ | ⟨_, h⟩ | ⟨h1, h2, h3, h4, h⟩ | ⟨_, h⟩ <;> rw [h] <;> simp
      exact h3
    rw [qR_step (bytes_app (formN_bytes c c256) hb) h34 ho, List.drop_left, qR_of_form s y hs' hy]
    simp [List.length_append, Nat.add_assoc]
theorem qR_local {r s : List Nat} {n : Nat} (hr : Bytes r) (h : qR r = (some s, n)) (y : List Nat) (hy : Bytes y) : qR (r.take n ++ y) = (some s, n) := by
  obtain ⟨h1, h2, h3, p, h4, h5⟩ := qR_bound r.length r zL hr s n h
  rw [h4, h5, List.append_assoc]
  have := qR_of_form s y h3 hy
  have hl : (s.flatMap formN).length + 1 = n := by
    have := congrArg List.length h4
    rw [List.length_take, List.length_append, h5] at this
    simp at this
    simp
    omega
  rw [hl] at this
  exact this
theorem common_le_right : ∀ (l r : List Nat), common l r ≤ r.length
  | [], r => by simp [common]
  | a :: l, [] => by simp [common]
  | a :: l, b :: r => by
    simp only [common, List.length_cons]
    split
    · have := common_le_right l r; omega
    · omega
theorem common_eq_take : ∀ (l r : List Nat), l.take (common l r) = r.take (common l r)
  | [], r => by simp [common]
  | a :: l, [] => by simp [common]
  | a :: l, b :: r => by
    simp only [common]
    split
    · rename_i h
      subst h
      rw [List.take_succ_cons, List.take_succ_cons, common_eq_take l r]
    · rfl
theorem common_self_take : ∀ (l r : List Nat), common l (r.take (common l r)) = common l r
  | [], r => by simp [common]
  | a :: l, [] => by simp [common]
  | a :: l, b :: r => by
    by_cases h : a = b
    · have e : common (a :: l) (b :: r) = common l r + 1 := by simp [common, h]
      rw [e, List.take_succ_cons]
      have e2 : common (a :: l) (b :: r.take (common l r)) = common l (r.take (common l r)) + 1 := by simp [common, h]
      rw [e2, common_self_take l r]
    · have e : common (a :: l) (b :: r) = 0 := by simp [common, h]
      rw [e]
      simp [common]
theorem one_far_le {r : List Nat} (hr : Bytes r) {far : Nat} (h : one r = (none, far)) : far ≤ r.length := by
  obtain ⟨_, c, _, hc⟩ := one_none hr h
  rw [← hc]
  exact common_le_right _ _
theorem hidden_15 {c : Nat} (hc : c < 256) (h : hiddenN c = true) : hiddenN (16 * (c / 16) + 15) = true := by
  have : ∀ c : Fin 256, hiddenN c.1 = true → hiddenN (16 * (c.1 / 16) + 15) = true := by decide +kernel
  exact this ⟨c, hc⟩ h
theorem form_ends {c : Nat} (hc : c < 256) {k : Nat} (hk : k < (formN c).length) : ∃ x ∈ [[34], [110, 34], [102, 102, 34], [102, 34]], ∃ s : List Nat, Bytes s ∧ (formN c).take k ++ x = s.flatMap formN ++ [34] := by
  have f10 : formN 10 = [92, 110] := by decide
  have f255 : formN 255 = [92, 120, 102, 102] := by decide
  rcases Nat.eq_zero_or_pos k with rfl | hk0
  · exact ⟨[34], by simp, [], bytes_nil, rfl⟩
  · rcases form_cases c with ⟨_, h⟩ | ⟨_, h⟩ | ⟨_, h⟩ | ⟨_, _, _, _, h⟩ | ⟨hh, h⟩
    all_goals rw [h] at hk ⊢
    all_goals simp only [List.length_cons, List.length_nil] at hk
    · obtain rfl : k = 1 := by omega
      exact ⟨[110, 34], by simp, [10], fun x hx => by simp at hx; omega, by simp [f10]⟩
    · obtain rfl : k = 1 := by omega
      exact ⟨[110, 34], by simp, [10], fun x hx => by simp at hx; omega, by simp [f10]⟩
    · obtain rfl : k = 1 := by omega
      exact ⟨[110, 34], by simp, [10], fun x hx => by simp at hx; omega, by simp [f10]⟩
    · omega
    · have hk3 : k = 1 ∨ k = 2 ∨ k = 3 := by omega
      rcases hk3 with rfl | rfl | rfl
      · exact ⟨[110, 34], by simp, [10], fun x hx => by simp at hx; omega, by simp [f10]⟩
      · exact ⟨[102, 102, 34], by simp, [255], fun x hx => by simp at hx; omega, by simp [f255]⟩
      · have h15 := hidden_15 hc hh
        have f15 := form_hidden h15
        have e1 : (16 * (c / 16) + 15) / 16 = c / 16 := by omega
        have e2 : (16 * (c / 16) + 15) % 16 = 15 := by omega
        rw [e1, e2] at f15
        exact ⟨[102, 34], by simp, [16 * (c / 16) + 15], fun x hx => by simp at hx; omega, by simp [f15]; decide⟩
theorem qR_cut : ∀ (N : Nat) (r : List Nat), r.length ≤ N → Bytes r → ∀ n, qR r = (none, n) → n ≤ r.length ∧ qR (r.take n) = (none, n) ∧ ∃ x ∈ [[34], [110, 34], [102, 102, 34], [102, 34]], ∃ s, qR (r.take n ++ x) = (some s, n + x.length)
  | N, r, hN, hr, n, h => by
    by_cases h34 : r.head? = some 34
    · rw [qR_end h34] at h; cases h
    · cases ho : one r with
      | mk a far =>
        cases a with
        | none =>
          rw [qR_stop h34 ho] at h
          cases h
          obtain ⟨hle, c, c256, hc⟩ := one_none hr ho
          have hfl := one_far_le hr ho
          have hpc : r.take n = (formN c).take n := by rw [← hc, common_eq_take]
          have hnl : n < (formN c).length := by
            have h1 := common_le_left (formN c) r
            rcases Nat.lt_or_ge n (formN c).length with hlt | hge
            · exact hlt
            · exfalso
              obtain ⟨t, ht⟩ := common_full (formN c) r (by omega)
              rw [ht, one_of_form c256] at ho
              cases ho
          refine ⟨hfl, ?_, ?_⟩
          · have hp34 : (r.take n).head? ≠ some 34 := by
              cases n with
              | zero => simp
              | succ n =>
                cases r with
                | nil => simp
                | cons a t => simpa using h34
            have hpb := bytes_take hr n
            cases ho2 : one (r.take n) with
            | mk a2 far2 =>
              cases a2 with
              | some q =>
                exfalso
                obtain ⟨c', k'⟩ := q
                obtain ⟨c256', hk', t, ht⟩ := one_some hpb hp34 ho2
                have e : r = formN c' ++ (t ++ r.drop n) := by rw [← List.append_assoc, ← ht, List.take_append_drop]
                rw [e, one_of_form c256'] at ho
                cases ho
              | none =>
                rw [qR_stop hp34 ho2]
                obtain ⟨hle2, c2, _, hc2⟩ := one_none hpb ho2
                have h1 := common_le_right (formN c2) (r.take n)
                rw [List.length_take] at h1
                have h2 := hle2 c c256
                have h3 : common (formN c) (r.take n) = n := by
                  have := common_self_take (formN c) r
                  rw [hc] at this
                  exact this
                rw [h3] at h2
                congr 1
                omega
          · obtain ⟨x, hx, s, hs, e⟩ := form_ends c256 hnl
            refine ⟨x, hx, s, ?_⟩
            rw [hpc, e]
            have := qR_of_form s [] hs bytes_nil
            rw [this]
            have hl := congrArg List.length e
            rw [List.length_append, List.length_append, List.length_take] at hl
            simp at hl
            congr 1
            simp
            omega
        | some q =>
          obtain ⟨c, k⟩ := q
          obtain ⟨c256, hk, t, ht⟩ := one_some hr h34 ho
          have hl := one_len hr h34 ho
          rw [qR_step hr h34 ho] at h
          cases hq : qR (r.drop k) with
          | mk a n' =>
            rw [hq] at h
            cases a with
            | some s => cases h
            | none =>
              cases h
              cases N with
              | zero => omega
              | succ N =>
                obtain ⟨i1, i2, x, hx, s, i3⟩ := qR_cut N (r.drop k) (by rw [List.length_drop]; omega) (bytes_drop hr k) n' hq
                rw [List.length_drop] at i1
                have e : r.take (k + n') = formN c ++ (r.drop k).take n' := by
                  rw [List.take_add]
                  congr 1
                  rw [ht, hk, List.take_left]
                have hfl : (formN c).length = k := hk.symm
                have hh34 : ∀ z, (formN c ++ z).head? ≠ some 34 := fun z => by
                  cases hf : formN c with
                  | nil => rw [hf] at hfl; simp at hfl; omega
                  | cons a u => rw [ht, hf] at h34; simpa using h34
                have hb2 := bytes_app (formN_bytes c c256) (bytes_take (bytes_drop hr k) n')
                have hbx : Bytes x := by
                  have : ∀ x ∈ ([[34], [110, 34], [102, 102, 34], [102, 34]] : List (List Nat)), ∀ z ∈ x, z < 256 := by decide
                  exact this x hx
                refine ⟨by omega, ?_, x, hx, c :: s, ?_⟩
                · rw [e, qR_step hb2 (hh34 _) (one_of_form c256 _), List.drop_left, i2, hfl]
                  rfl
                · rw [e, List.append_assoc, qR_step (bytes_app (formN_bytes c c256) (bytes_app (bytes_take (bytes_drop hr k) n') hbx)) (hh34 _) (one_of_form c256 _), List.drop_left, i3, hfl]
                  simp [Nat.add_assoc]
end Go.Proofs.YtpkggobhhieeoaaDoor
namespace Go.Proofs.YtpkggobhhieeoaaDoor
def Next (z y : List Nat) : Prop := y.head? = z.head? ∨ y.head? = none ∨ y.head? = some 32 ∨ y.head? = some 10 ∨ y.head? = some 41
def tokR (r : List Nat) : Option (Nat × List Nat × Int) × Nat :=
  if r.head? = some 34 then ((qR (r.drop 1)).1.map (fun s => (2, s, 0)), (qR (r.drop 1)).2 + 1) else stepP r
theorem num_mono : ∀ (r : List Nat) (j n : Nat), j ≤ (numScan r j n).2.1 ∧ (numScan r j n).2.1 ≤ j + r.length
  | [], j, n => by simp [numScan]
  | c :: r, j, n => by
    rw [numScan]
    split
    · split
      · simp
      · have := num_mono r (j + 1) (10 * n + (c - 48))
        simp only [List.length_cons]
        omega
    · simp
theorem num_local : ∀ (r : List Nat) (j n : Nat) (y : List Nat), (numScan r j n).2.2 = true → Next (r.drop ((numScan r j n).2.1 - j)) y → numScan (r.take ((numScan r j n).2.1 - j) ++ y) j n = numScan r j n
  | [], j, n, y, h, hy => by
    simp only [numScan, Nat.sub_self, List.take_nil, List.nil_append]
    simp only [numScan, Nat.sub_self, List.drop_nil, Next] at hy
    cases y with
    | nil => rfl
    | cons a y =>
      have ha : a = 32 ∨ a = 10 ∨ a = 41 := by simpa using hy
      rw [numScan, if_neg (by omega)]
      rcases ha with rfl | rfl | rfl <;> rfl
  | c :: r, j, n, y, h, hy => by
    by_cases hd : 48 ≤ c ∧ c ≤ 57
    · by_cases hb : (0 < j ∧ n = 0) ∨ (9223372036854775807 - (c - 48)) / 10 < n
      · rw [numScan, if_pos hd, if_pos hb] at h
        cases h
      · have e : numScan (c :: r) j n = numScan r (j + 1) (10 * n + (c - 48)) := by rw [numScan, if_pos hd, if_neg hb]
        rw [e] at h hy ⊢
        have hm := num_mono r (j + 1) (10 * n + (c - 48))
        obtain ⟨m, hmm⟩ : ∃ m, (numScan r (j + 1) (10 * n + (c - 48))).2.1 - j = m + 1 := ⟨(numScan r (j + 1) (10 * n + (c - 48))).2.1 - j - 1, by omega⟩
        have hm2 : (numScan r (j + 1) (10 * n + (c - 48))).2.1 - (j + 1) = m := by omega
        rw [hmm] at hy ⊢
        rw [List.drop_succ_cons] at hy
        rw [List.take_succ_cons, List.cons_append, numScan, if_pos hd, if_neg hb]
        have := num_local r (j + 1) (10 * n + (c - 48)) y h (by rw [hm2]; exact hy)
        rw [hm2] at this
        exact this
    · have e : numScan (c :: r) j n = (n, j, !furtherN c) := by rw [numScan, if_neg hd]
      rw [e] at h hy ⊢
      simp only [Nat.sub_self, List.take_zero, List.nil_append, List.drop_zero] at hy h ⊢
      cases y with
      | nil => rw [numScan]; rw [h]
      | cons a y =>
        simp only [Next, List.head?_cons] at hy
        have ha : a = c ∨ a = 32 ∨ a = 10 ∨ a = 41 := by simpa using hy
        rcases ha with rfl | rfl | rfl | rfl
        · rw [numScan, if_neg hd]
        · rw [numScan, if_neg (by omega), h]; rfl
        · rw [numScan, if_neg (by omega), h]; rfl
        · rw [numScan, if_neg (by omega), h]; rfl
theorem num_cut : ∀ (r : List Nat) (j n : Nat), (numScan (r.take ((numScan r j n).2.1 - j)) j n).2 = ((numScan r j n).2.1, true)
  | [], j, n => by simp [numScan]
  | c :: r, j, n => by
    by_cases hd : 48 ≤ c ∧ c ≤ 57
    · by_cases hb : (0 < j ∧ n = 0) ∨ (9223372036854775807 - (c - 48)) / 10 < n
      · have e : numScan (c :: r) j n = (0, j, false) := by rw [numScan, if_pos hd, if_pos hb]
        rw [e]
        simp [numScan]
      · have e : numScan (c :: r) j n = numScan r (j + 1) (10 * n + (c - 48)) := by rw [numScan, if_pos hd, if_neg hb]
        rw [e]
        have hm := num_mono r (j + 1) (10 * n + (c - 48))
        obtain ⟨m, hmm⟩ : ∃ m, (numScan r (j + 1) (10 * n + (c - 48))).2.1 - j = m + 1 := ⟨(numScan r (j + 1) (10 * n + (c - 48))).2.1 - j - 1, by omega⟩
        have hm2 : (numScan r (j + 1) (10 * n + (c - 48))).2.1 - (j + 1) = m := by omega
        have := num_cut r (j + 1) (10 * n + (c - 48))
        rw [hm2] at this
        rw [hmm, List.take_succ_cons, numScan, if_pos hd, if_neg hb]
        exact this
    · have e : numScan (c :: r) j n = (n, j, !furtherN c) := by rw [numScan, if_neg hd]
      rw [e]
      simp [numScan]
theorem tw_app {p : Nat → Bool} : ∀ (l y : List Nat), l.all p = true → (∀ c, y.head? = some c → p c = false) → (l ++ y).takeWhile p = l
  | [], [], _, _ => rfl
  | [], c :: y, _, h => by rw [List.nil_append, List.takeWhile_cons, if_neg (by rw [h c rfl]; simp)]
  | a :: l, y, h, hy => by
    rw [List.all_cons, Bool.and_eq_true] at h
    rw [List.cons_append, List.takeWhile_cons, if_pos h.1, tw_app l y h.2 hy]
theorem blank_not_further {c : Nat} (h : c = 32 ∨ c = 10) : furtherN c = false := by rcases h with rfl | rfl <;> rfl
theorem Next.not_further {z y : List Nat} (h : Next z y) (hz : ∀ c, z.head? = some c → furtherN c = false) : ∀ c, y.head? = some c → furtherN c = false := by
  intro c hc
  rcases h with h | h | h | h | h
  · exact hz c (by rw [← h]; exact hc)
  · rw [h] at hc; cases hc
  · rw [h] at hc; injection hc with hc; exact blank_not_further (Or.inl hc.symm)
  · rw [h] at hc; injection hc with hc; exact blank_not_further (Or.inr hc.symm)
  · rw [h] at hc; injection hc with hc; rw [← hc]; rfl
theorem mark_local {m z y : List Nat} (h : markN (m ++ z) = (m, m.length)) (hm : m ∈ marksL) (hy : Next z y) : markN (m ++ y) = (m, m.length) := by
  have hz : ∀ d, y.head? = some d → (z.head? = some d ∨ d = 32 ∨ d = 10 ∨ d = 41) := by
    intro d hd
    rcases hy with h | h | h | h | h <;> rw [h] at hd
    · exact Or.inl hd
    · cases hd
    · injection hd with hd; exact Or.inr (Or.inl hd.symm)
    · injection hd with hd; exact Or.inr (Or.inr (Or.inl hd.symm))
    · injection hd with hd; exact Or.inr (Or.inr (Or.inr hd.symm))
  simp only [marksL, List.mem_cons, List.not_mem_nil, or_false] at hm
  rcases hm with rfl | rfl | rfl | rfl | rfl | rfl | rfl | rfl | rfl | rfl | rfl | rfl | rfl | rfl | rfl | rfl
  case inr.inr.inr.inr.inr.inr.inr.inr.inr.inr.inr.inr.inl =>
    cases y with
    | nil => decide
    | cons d y =>
      have hd : d ≠ 62 := by
        rcases hz d rfl with hh | hh | hh | hh
        · cases z with
          | nil => cases hh
          | cons b z =>
            injection hh with hh
            subst hh
            rintro rfl
            simp [markN, marksL, List.find?, List.isPrefixOf] at h
        · omega
        · omega
        · omega
      have hb : (62 == d) = false := by rw [beq_eq_false_iff_ne]; exact Ne.symm hd
      simp [markN, marksL, List.find?, List.isPrefixOf, hb]
  case inr.inr.inr.inr.inr.inr.inr.inr.inr.inr.inr.inr.inr.inr.inl =>
    cases y with
    | nil => decide
    | cons d y =>
      have hd : d ≠ 61 := by
        rcases hz d rfl with hh | hh | hh | hh
        · cases z with
          | nil => cases hh
          | cons b z =>
            injection hh with hh
            subst hh
            rintro rfl
            simp [markN, marksL, List.find?, List.isPrefixOf] at h
        · omega
        · omega
        · omega
      have hb : (61 == d) = false := by rw [beq_eq_false_iff_ne]; exact Ne.symm hd
      simp [markN, marksL, List.find?, List.isPrefixOf, hb]
  all_goals simp [markN, marksL, List.find?, List.isPrefixOf]
theorem prefix_of : ∀ (m r : List Nat), m.isPrefixOf r = true → ∃ z, r = m ++ z
  | [], r, _ => ⟨r, rfl⟩
  | a :: m, [], h => by simp [List.isPrefixOf] at h
  | a :: m, b :: r, h => by
    rw [List.isPrefixOf, Bool.and_eq_true] at h
    obtain ⟨z, hz⟩ := prefix_of m r h.2
    have : a = b := by simpa using h.1
    subst this
    exact ⟨z, by rw [hz]; rfl⟩
theorem mark_found {r : List Nat} (h : (markN r).1 ≠ []) : (markN r).1 ∈ marksL ∧ (markN r).2 = (markN r).1.length ∧ ∃ z, r = (markN r).1 ++ z := by
  cases hf : marksL.find? (fun m => m.isPrefixOf r) with
  | some m =>
    have hM : markN r = (m, m.length) := by unfold markN; rw [hf]
    have h1 := List.find?_some hf
    have h2 := List.mem_of_find?_eq_some hf
    rw [hM]
    refine ⟨h2, rfl, ?_⟩
    exact prefix_of _ _ h1
  | none =>
    have hM : markN r = if r.head? = some 33 ∨ r.head? = some 61 then ([], 1) else ([], 0) := by unfold markN; rw [hf]
    rw [hM] at h
    split at h <;> exact absurd rfl h
theorem mark_none {r : List Nat} (h : (markN r).1 = []) : (markN r).2 = 0 ∨ ((markN r).2 = 1 ∧ (r.head? = some 33 ∨ r.head? = some 61)) := by
  cases hf : marksL.find? (fun m => m.isPrefixOf r) with
  | some m =>
    have hM : markN r = (m, m.length) := by unfold markN; rw [hf]
    have h2 := List.mem_of_find?_eq_some hf
    rw [hM] at h
    have h' : m = [] := h
    subst h'
    exact absurd h2 (by decide)
  | none =>
    have hM : markN r = if r.head? = some 33 ∨ r.head? = some 61 then ([], 1) else ([], 0) := by unfold markN; rw [hf]
    rw [hM]
    split
    · rename_i hh; exact Or.inr ⟨rfl, hh⟩
    · exact Or.inl rfl
theorem stepP_digit {c : Nat} (h : 48 ≤ c ∧ c ≤ 57) (t : List Nat) : stepP (c :: t) = if (numScan (c :: t) 0 0).2.2 then (some (1, [], ((numScan (c :: t) 0 0).1 : Int)), (numScan (c :: t) 0 0).2.1) else (none, (numScan (c :: t) 0 0).2.1) := by
  simp only [stepP]; rw [if_pos h]
theorem stepP_letter {c : Nat} (h : letterN c = true) (t : List Nat) : stepP (c :: t) = if ((c :: t).takeWhile furtherN).length ≤ 32 then (some (if (c :: t).takeWhile furtherN ∈ wordsL then 4 else 3, (c :: t).takeWhile furtherN, 0), ((c :: t).takeWhile furtherN).length) else (none, 32) := by
  have := letter_cases h
  simp only [stepP]; rw [if_neg (by omega), if_pos h]
theorem stepP_mark {c : Nat} (h1 : ¬ (48 ≤ c ∧ c ≤ 57)) (h2 : ¬ letterN c = true) (t : List Nat) : stepP (c :: t) = if (markN (c :: t)).1 = [] then (none, (markN (c :: t)).2) else (some (5, (markN (c :: t)).1, 0), (markN (c :: t)).2) := by
  simp only [stepP]; rw [if_neg h1, if_neg h2]
theorem tokR_quote (t : List Nat) : tokR (34 :: t) = ((qR t).1.map (fun s => (2, s, 0)), (qR t).2 + 1) := by
  unfold tokR
  rw [if_pos (show (34 :: t).head? = some 34 from rfl)]
  rfl
theorem tokR_step {c : Nat} (h : c ≠ 34) (t : List Nat) : tokR (c :: t) = stepP (c :: t) := by
  unfold tokR
  rw [if_neg (by simpa using h)]
theorem num_pos {c : Nat} (h : 48 ≤ c ∧ c ≤ 57) (t : List Nat) : 1 ≤ (numScan (c :: t) 0 0).2.1 := by
  rw [numScan, if_pos h, if_neg (by omega)]
  exact (num_mono t 1 _).1
theorem tok_some {r : List Nat} (hr : Bytes r) {k n : Nat} {s : List Nat} {v : Int} (h : tokR r = (some (k, s, v), n)) : 1 ≤ n ∧ n ≤ r.length ∧ Bytes s ∧ k < 6 ∧ -9223372036854775808 ≤ v ∧ v ≤ 9223372036854775807 := by
  cases r with
  | nil => cases h
  | cons c t =>
    by_cases h34 : c = 34
    · subst h34
      rw [tokR_quote] at h
      have ht : Bytes t := fun x hx => hr x (List.mem_cons_of_mem _ hx)
      cases hq : qR t with
      | mk a m =>
        rw [hq] at h
        cases a with
        | none => cases h
        | some s' =>
          cases h
          obtain ⟨h1, h2, h3, _⟩ := qR_bound t.length t zL ht _ _ hq
          exact ⟨by omega, by rw [List.length_cons]; omega, h3, by omega, by omega, by omega⟩
    · rw [tokR_step h34] at h
      exact step_some hr h
theorem tok_local {r y : List Nat} (hr : Bytes r) (hy : Bytes y) {t : Nat × List Nat × Int} {n : Nat} (h : tokR r = (some t, n)) (hn : Next (r.drop n) y) : tokR (r.take n ++ y) = (some t, n) := by
  obtain ⟨k, s, v⟩ := t
  have hpos := (tok_some hr h).1
  cases r with
  | nil => cases h
  | cons c t =>
    obtain ⟨n, rfl⟩ : ∃ m, n = m + 1 := ⟨n - 1, by omega⟩
    by_cases h34 : c = 34
    · subst h34
      rw [tokR_quote] at h
      have ht : Bytes t := fun x hx => hr x (List.mem_cons_of_mem _ hx)
      cases hq : qR t with
      | mk a m =>
        rw [hq] at h
        cases a with
        | none => cases h
        | some s' =>
          cases h
          rw [List.take_succ_cons, List.cons_append, tokR_quote, qR_local ht hq y hy]
          rfl
    · rw [tokR_step h34] at h
      rw [List.take_succ_cons, List.cons_append, tokR_step h34]
      rw [List.drop_succ_cons] at hn
      by_cases hd : 48 ≤ c ∧ c ≤ 57
      · rw [stepP_digit hd] at h ⊢
        split at h
        · rename_i hb
          simp only [Prod.mk.injEq] at h
          obtain ⟨h1, h2⟩ := h
          have hl := num_local (c :: t) 0 0 y hb (by rw [Nat.sub_zero, h2, List.drop_succ_cons]; exact hn)
          rw [Nat.sub_zero, h2, List.take_succ_cons, List.cons_append] at hl
          rw [hl, if_pos hb, h2, h1]
        · cases h
      · by_cases hlet : letterN c = true
        · rw [stepP_letter hlet] at h ⊢
          split at h
          · rename_i h32
            simp only [Prod.mk.injEq] at h
            obtain ⟨h1, h2⟩ := h
            have htk := take_of_takeWhile (p := furtherN) (c :: t)
            rw [h2, List.take_succ_cons] at htk
            have hall : (c :: t.take n).all furtherN = true := by rw [htk]; exact takeWhile_all _
            have hrun : ((c :: (t.take n ++ y)).takeWhile furtherN) = (c :: t).takeWhile furtherN := by
              have := tw_app (p := furtherN) (c :: t.take n) y hall (hn.not_further (fun d hd' => takeWhile_next (p := furtherN) (c :: t) d (by rw [h2, List.getElem?_cons_succ, ← hd', List.head?_drop])))
              rw [List.cons_append] at this
              rw [this, htk]
            rw [hrun, if_pos h32, h1, h2]
          · cases h
        · rw [stepP_mark hd hlet] at h ⊢
          split at h
          · cases h
          · rename_i hne
            simp only [Prod.mk.injEq] at h
            obtain ⟨h1, h2⟩ := h
            obtain ⟨m1, m2, z, m3⟩ := mark_found hne
            have hM : markN ((markN (c :: t)).1 ++ z) = ((markN (c :: t)).1, (markN (c :: t)).1.length) := by
              rw [← m3, ← m2]
            have hz : z = t.drop n := by
              have e : (c :: t).drop (n + 1) = z := by
                conv => lhs; rw [m3]
                rw [← h2, m2, List.drop_left]
              rw [← e, List.drop_succ_cons]
            have hm := mark_local hM m1 (y := y) (by rw [hz]; exact hn)
            have e2 : c :: (t.take n ++ y) = (markN (c :: t)).1 ++ y := by
              have e : (c :: t).take (n + 1) = (markN (c :: t)).1 := by
                conv => lhs; rw [m3]
                rw [← h2, m2, List.take_left]
              rw [← e, List.take_succ_cons, List.cons_append]
            rw [e2, hm, if_neg hne, h1]
            simp only
            rw [← m2, h2]
def endsL : List (List Nat) := [[], [34], [110, 34], [102, 102, 34], [102, 34], [61]]
theorem tok_cut {r : List Nat} (hr : Bytes r) (h0 : r ≠ []) {n : Nat} (h : tokR r = (none, n)) : n ≤ r.length ∧ (n = 0 ∨ (∃ t, tokR (r.take n) = (some t, n)) ∨ tokR (r.take n) = (none, n)) ∧ (n = 0 ∨ ∃ x ∈ endsL, ∃ t, tokR (r.take n ++ x) = (some t, n + x.length)) := by
  cases r with
  | nil => exact absurd rfl h0
  | cons c t =>
    by_cases h34 : c = 34
    · subst h34
      have ht : Bytes t := fun x hx => hr x (List.mem_cons_of_mem _ hx)
      rw [tokR_quote] at h
      cases hq : qR t with
      | mk a m =>
        rw [hq] at h
        cases a with
        | some s' => cases h
        | none =>
          cases h
          obtain ⟨h1, h2, x, hx, s, h3⟩ := qR_cut t.length t zL ht m hq
          refine ⟨by rw [List.length_cons]; show m + 1 ≤ _; omega, Or.inr (Or.inr ?_), Or.inr ⟨x, ?_, (2, s, 0), ?_⟩⟩
          · show tokR ((34 :: t).take (m + 1)) = (none, m + 1)
            rw [List.take_succ_cons, tokR_quote, h2]
            rfl
          · unfold endsL
            simp only [List.mem_cons, List.not_mem_nil, or_false] at hx ⊢
            rcases hx with rfl | rfl | rfl | rfl <;> simp
          · show tokR ((34 :: t).take (m + 1) ++ x) = (some (2, s, 0), m + 1 + x.length)
            rw [List.take_succ_cons, List.cons_append, tokR_quote, h3]
            simp
            omega
    · rw [tokR_step h34] at h
      by_cases hd : 48 ≤ c ∧ c ≤ 57
      · rw [stepP_digit hd] at h
        split at h
        · cases h
        · injection h with _ h
          have hp := num_pos hd t
          have hm := (num_mono (c :: t) 0 0).2
          have hc := num_cut (c :: t) 0 0
          rw [Nat.sub_zero, h] at hc
          rw [h] at hp
          obtain ⟨m, rfl⟩ : ∃ m, n = m + 1 := ⟨n - 1, by omega⟩
          rw [List.take_succ_cons] at hc
          have hs : tokR ((c :: t).take (m + 1)) = (some (1, [], ((numScan (c :: t.take m) 0 0).1 : Int)), m + 1) := by
            rw [List.take_succ_cons, tokR_step h34, stepP_digit hd]
            have e1 : (numScan (c :: t.take m) 0 0).2.2 = true := by rw [hc]
            have e2 : (numScan (c :: t.take m) 0 0).2.1 = m + 1 := by rw [hc]
            rw [e1, e2]
            rfl
          exact ⟨by omega, Or.inr (Or.inl ⟨_, hs⟩), Or.inr ⟨[], by simp [endsL], _, by rw [List.append_nil]; exact hs⟩⟩
      · by_cases hlet : letterN c = true
        · rw [stepP_letter hlet] at h
          split at h
          · cases h
          · rename_i h32
            injection h with _ h
            subst h
            have hle := takeWhile_le (p := furtherN) (c :: t)
            have htk := take_of_takeWhile (p := furtherN) (c :: t)
            have hall : ((c :: t).take 32).all furtherN = true := by
              have h1 := takeWhile_all (p := furtherN) (c :: t)
              rw [List.all_eq_true] at h1 ⊢
              intro x hx
              refine h1 x ?_
              have e : (c :: t).take 32 = ((c :: t).takeWhile furtherN).take 32 := by rw [← htk, List.take_take, Nat.min_eq_left (by omega)]
              rw [e] at hx
              exact List.mem_of_mem_take hx
            have hrun := tw_app (p := furtherN) ((c :: t).take 32) [] hall (fun _ h => by cases h)
            rw [List.append_nil] at hrun
            have hl : ((c :: t).take 32).length = 32 := by rw [List.length_take]; omega
            have hs : tokR ((c :: t).take 32) = (some (if (c :: t).take 32 ∈ wordsL then 4 else 3, (c :: t).take 32, 0), 32) := by
              rw [List.take_succ_cons] at hrun hl ⊢
              rw [tokR_step h34, stepP_letter hlet, hrun, if_pos (by omega), hl]
            exact ⟨by omega, Or.inr (Or.inl ⟨_, hs⟩), Or.inr ⟨[], by simp [endsL], _, by rw [List.append_nil]; exact hs⟩⟩
        · rw [stepP_mark hd hlet] at h
          split at h
          · rename_i hm0
            injection h with _ h
            subst h
            rcases mark_none hm0 with h1 | ⟨h1, h2⟩
            · rw [h1]
              exact ⟨Nat.zero_le _, Or.inl rfl, Or.inl rfl⟩
            · have hc : c = 33 ∨ c = 61 := by simpa using h2
              rw [h1]
              refine ⟨by simp, Or.inr (Or.inr ?_), Or.inr ⟨[61], by simp [endsL], ?_⟩⟩
              · rw [List.take_succ_cons, List.take_zero]
                rcases hc with rfl | rfl <;> decide
              · rw [List.take_succ_cons, List.take_zero]
                rcases hc with rfl | rfl
                · exact ⟨(5, [33, 61], 0), by decide⟩
                · exact ⟨(5, [61, 61], 0), by decide⟩
          · cases h
end Go.Proofs.YtpkggobhhieeoaaDoor
namespace Go.Proofs.YtpkggobhhieeoaaDoor
def NoBlank (r : List Nat) : Prop := ∀ c, r.head? = some c → ¬ (c = 32 ∨ c = 10)
inductive Run : List Nat → Nat → List Tok → List Nat → Nat → Prop
  | done (r : List Nat) (i : Nat) : Run r i [] r i
  | blank {c : Nat} {t : List Nat} {i : Nat} {T : List Tok} {r' : List Nat} {i' : Nat} : (c = 32 ∨ c = 10) → Run t (i + 1) T r' i' → Run (c :: t) i T r' i'
  | tok {r : List Nat} {i k : Nat} {s : List Nat} {v : Int} {n : Nat} {T : List Tok} {r' : List Nat} {i' : Nat} : NoBlank r → tokR r = (some (k, s, v), n) → Run (r.drop n) (i + n) T r' i' → Run r i (⟨k, s, v, i⟩ :: T) r' i'
def Stuck (r : List Nat) (n : Nat) : Prop := r ≠ [] ∧ NoBlank r ∧ tokR r = (none, n)
theorem Run.total : ∀ (N : Nat) (r : List Nat) (i : Nat), r.length ≤ N → Bytes r → (∃ T i', Run r i T [] i') ∨ ∃ T r' i' n, Run r i T r' i' ∧ Stuck r' n
  | 0, r, i, h, hr => by
    have : r = [] := List.eq_nil_of_length_eq_zero (by omega)
    subst this
    exact Or.inl ⟨[], i, .done _ _⟩
  | N + 1, [], i, h, hr => Or.inl ⟨[], i, .done _ _⟩
  | N + 1, c :: t, i, h, hr => by
    by_cases hb : c = 32 ∨ c = 10
    · rcases Run.total N t (i + 1) (by simpa using h) (fun x hx => hr x (List.mem_cons_of_mem _ hx)) with ⟨T, i', h1⟩ | ⟨T, r', i', n, h1, h2⟩
      · exact Or.inl ⟨T, i', .blank hb h1⟩
      · exact Or.inr ⟨T, r', i', n, .blank hb h1, h2⟩
    · have hnb : NoBlank (c :: t) := fun d hd => by injection hd with hd; subst hd; exact hb
      cases ht : tokR (c :: t) with
      | mk a n =>
        cases a with
        | none => exact Or.inr ⟨[], c :: t, i, n, .done _ _, by simp, hnb, ht⟩
        | some q =>
          obtain ⟨k, s, v⟩ := q
          obtain ⟨h1, h2, _⟩ := tok_some hr ht
          rcases Run.total N ((c :: t).drop n) (i + n) (by rw [List.length_drop]; simp only [List.length_cons] at h h2 ⊢; omega) (bytes_drop hr n) with ⟨T, i', h3⟩ | ⟨T, r', i', m, h3, h4⟩
          · exact Or.inl ⟨_, i', .tok hnb ht h3⟩
          · exact Or.inr ⟨_, r', i', m, .tok hnb ht h3, h4⟩
theorem Run.place {r : List Nat} {i : Nat} {T : List Tok} {r' : List Nat} {i' : Nat} (h : Run r i T r' i') (hr : Bytes r) : ∃ m, i' = i + m ∧ m ≤ r.length ∧ r' = r.drop m := by
  induction h with
  | done r i => exact ⟨0, rfl, Nat.zero_le _, rfl⟩
  | blank hb h ih =>
    obtain ⟨m, h1, h2, h3⟩ := ih (fun x hx => hr x (List.mem_cons_of_mem _ hx))
    exact ⟨m + 1, by omega, by simp; omega, by rw [h3]; rfl⟩
  | @tok r i k s v n T r' i' hnb ht h ih =>
    obtain ⟨m, h1, h2, h3⟩ := ih (bytes_drop hr _)
    obtain ⟨h4, h5, _⟩ := tok_some hr ht
    rw [List.length_drop] at h2
    refine ⟨n + m, by rw [h1, Nat.add_assoc], by omega, by rw [h3, List.drop_drop]⟩
theorem Run.trans {r : List Nat} {i : Nat} {T T' : List Tok} {r1 r2 : List Nat} {i1 i2 : Nat} (h : Run r i T r1 i1) (h' : Run r1 i1 T' r2 i2) : Run r i (T ++ T') r2 i2 := by
  induction h with
  | done r i => exact h'
  | blank hb _ ih => exact .blank hb (ih h')
  | tok hnb ht _ ih => exact .tok hnb ht (ih h')
theorem Run.ctx {r : List Nat} {i : Nat} {T : List Tok} {r' : List Nat} {i' : Nat} (h : Run r i T r' i') : Bytes r → ∀ y, Bytes y → Next r' y → Run (r.take (i' - i) ++ y) i T y i' := by
  induction h with
  | done r i => intro _ y _ _; rw [Nat.sub_self, List.take_zero]; exact .done _ _
  | @blank c t i T r' i' hb h ih =>
    intro hr y hy hn
    have hr' : Bytes t := fun x hx => hr x (List.mem_cons_of_mem _ hx)
    obtain ⟨m, h1, _, _⟩ := h.place hr'
    have e : i' - i = (i' - (i + 1)) + 1 := by omega
    rw [e, List.take_succ_cons]
    exact .blank hb (ih hr' y hy hn)
  | @tok r i k s v n T r' i' hnb ht h ih =>
    intro hr y hy hn
    obtain ⟨h4, h5, _⟩ := tok_some hr ht
    obtain ⟨m, h1, h2, h3⟩ := h.place (bytes_drop hr n)
    have hX := ih (bytes_drop hr n) y hy hn
    have e1 : i' - (i + n) = m := by omega
    have e2 : i' - i = n + m := by omega
    rw [e1] at hX
    rw [e2, List.take_add, List.append_assoc]
    have hXb : Bytes ((r.drop n).take m ++ y) := bytes_app (bytes_take (bytes_drop hr n) m) hy
    have hnext : Next (r.drop n) ((r.drop n).take m ++ y) := by
      cases hd : r.drop n with
      | nil => rw [hd] at h3; rw [List.drop_nil] at h3; subst h3; rw [List.take_nil, List.nil_append]; exact hn
      | cons a u =>
        cases m with
        | zero => rw [hd, List.drop_zero] at h3; subst h3; rw [List.take_zero, List.nil_append]; exact hn
        | succ m => left; rfl
    have htl : (r.take n).length = n := by rw [List.length_take]; omega
    refine .tok (n := n) ?_ (tok_local hr hXb ht hnext) ?_
    · intro c hc
      refine hnb c ?_
      cases r with
      | nil => simp at h5; omega
      | cons a u =>
        obtain ⟨n, rfl⟩ : ∃ m, n = m + 1 := ⟨n - 1, by omega⟩
        exact hc
    · have : (r.take n ++ ((r.drop n).take m ++ y)).drop n = (r.drop n).take m ++ y := by
        conv => lhs; rw [← htl]
        rw [htl]
        have := List.drop_left (l₁ := r.take n) (l₂ := (r.drop n).take m ++ y)
        rw [htl] at this
        exact this
      rw [this]
      exact hX
theorem drop_get {l r : List Nat} {i : Nat} (h : r = l.drop i) : r.head? = l[i]? := by rw [h, List.head?_drop]
theorem quote_tok {l t : List Nat} {i : Nat} (hl : Bytes l) (h : 34 :: t = l.drop i) : quoteAt l i = match qR t with
    | (some s, n) => (s, i + 1 + n, 0)
    | (none, n) => ([], i + 1 + n, 10) := by
  have hd : l.drop (i + 1) = t := by rw [← List.drop_drop, ← h]; rfl
  unfold quoteAt
  rw [unq_qS _ _ _ _ hl (by rw [hd]; have := congrArg List.length h; rw [List.length_drop, List.length_cons] at this; omega), hd]
  cases qR t with
  | mk a n => cases a <;> simp
theorem scan_run {l : List Nat} (hl : Bytes l) {r : List Nat} {i : Nat} {T : List Tok} {r' : List Nat} {i' : Nat} (h : Run r i T r' i') : r = l.drop i → ∀ f o, r.length < f → ∃ f', r'.length < f' ∧ scanT l f i o = scanT l f' i' (o ++ T) := by
  induction h with
  | done r i => intro _ f o hf; exact ⟨f, hf, by rw [List.append_nil]⟩
  | @blank c t i T r' i' hb h ih =>
    intro hr f o hf
    have hd : t = l.drop (i + 1) := by rw [← List.drop_drop, ← hr]; rfl
    obtain ⟨f', h1, h2⟩ := ih hd (f - 1) o (by rw [List.length_cons] at hf; omega)
    refine ⟨f', h1, ?_⟩
    have := scan_blank (l := l) (f := f) (i := i) (c := c) (o := o) rfl (by rw [List.length_cons] at hf; omega) (by rw [← drop_get hr]; rfl) hb
    rw [← this, h2]
  | @tok r i k s v n T r' i' hnb ht h ih =>
    intro hr f o hf
    have hrb : Bytes r := by rw [hr]; exact bytes_drop hl i
    obtain ⟨h4, h5, _⟩ := tok_some hrb ht
    have hd : r.drop n = l.drop (i + n) := by rw [hr, List.drop_drop]
    obtain ⟨f', h1, h2⟩ := ih hd (f - 1) (o ++ [⟨k, s, v, i⟩]) (by rw [List.length_drop]; omega)
    refine ⟨f', h1, ?_⟩
    rw [List.append_assoc] at h2
    rw [List.singleton_append] at h2
    rw [← h2]
    cases hrr : r with
    | nil => rw [hrr] at h5; simp at h5; omega
    | cons c t =>
      rw [hrr] at hr ht hnb
      have hc : l[i]? = some c := by rw [← drop_get hr]; rfl
      have hcb := hnb c rfl
      by_cases h34 : c = 34
      · subst h34
        rw [tokR_quote] at ht
        have hq := quote_tok hl hr
        cases hqr : qR t with
        | mk a m =>
          rw [hqr] at ht hq
          cases a with
          | none => cases ht
          | some s' =>
            simp only [Option.map_some, Prod.mk.injEq, Option.some.injEq] at ht
            obtain ⟨⟨rfl, rfl, rfl⟩, rfl⟩ := ht
            have := scan_quote (l := l) (f := f) (i := i) (o := o) rfl (by omega) hc hq
            rw [← this]
            have e : i + 1 + m = i + (m + 1) := by omega
            rw [e]
            rfl
      · rw [tokR_step h34] at ht
        exact (scan_step (l := l) (f := f) (i := i) (o := o) rfl (by omega) hc hcb h34 (by rw [← hr]; exact ht)).symm
theorem scan_stuck {l r : List Nat} (hl : Bytes l) {i n : Nat} (h : Stuck r n) (hr : r = l.drop i) {f : Nat} (hf : 0 < f) (o : List Tok) : scanT l f i o = ([], i + n, 70) := by
  obtain ⟨h0, hnb, ht⟩ := h
  cases hrr : r with
  | nil => exact absurd hrr h0
  | cons c t =>
    rw [hrr] at hr ht hnb
    have hc : l[i]? = some c := by rw [← drop_get hr]; rfl
    have hcb := hnb c rfl
    by_cases h34 : c = 34
    · subst h34
      rw [tokR_quote] at ht
      have hq := quote_tok hl hr
      cases hqr : qR t with
      | mk a m =>
        rw [hqr] at ht hq
        cases a with
        | some s' => cases ht
        | none =>
          simp only [Option.map_none, Prod.mk.injEq] at ht
          obtain ⟨_, rfl⟩ := ht
          rw [scan_quote_no (l := l) (f := f) (i := i) (o := o) rfl hf hc hq (by omega)]
          have e : i + 1 + m = i + (m + 1) := by omega
          rw [e]
    · rw [tokR_step h34] at ht
      exact scan_step_no (l := l) (f := f) (i := i) (o := o) rfl hf hc hcb h34 (by rw [← hr]; exact ht)
theorem scan_ok {l : List Nat} (hl : Bytes l) (h4 : l.length ≤ 4096) {T : List Tok} {i' : Nat} (h : Run l 0 T [] i') : scanN l = (T, 0, 0) := by
  obtain ⟨f', h1, h2⟩ := scan_run hl h rfl (l.length + 1) [] (by omega)
  obtain ⟨m, h3, _, h5⟩ := h.place hl
  unfold scanN
  rw [if_neg (by omega), h2]
  have hlen := congrArg List.length h5
  rw [List.length_drop] at hlen
  have : l.length ≤ i' := by simp at hlen; omega
  rw [List.nil_append, scan_end rfl this]
theorem scan_no {l : List Nat} (hl : Bytes l) (h4 : l.length ≤ 4096) {T : List Tok} {r' : List Nat} {i' n : Nat} (h : Run l 0 T r' i') (hs : Stuck r' n) : scanN l = ([], i' + n, 70) := by
  obtain ⟨f', h1, h2⟩ := scan_run hl h rfl (l.length + 1) [] (by omega)
  obtain ⟨m, h3, _, h5⟩ := h.place hl
  unfold scanN
  rw [if_neg (by omega), h2]
  exact scan_stuck hl hs (by rw [h5, h3, Nat.zero_add]) (by omega) _
theorem scan_cases {l : List Nat} (hl : Bytes l) (h4 : l.length ≤ 4096) : (∃ T i', Run l 0 T [] i' ∧ scanN l = (T, 0, 0)) ∨ (∃ T r' i' n, Run l 0 T r' i' ∧ Stuck r' n ∧ scanN l = ([], i' + n, 70)) := by
  rcases Run.total l.length l 0 zL hl with ⟨T, i', h⟩ | ⟨T, r', i', n, h, hs⟩
  · exact Or.inl ⟨T, i', h, scan_ok hl h4 h⟩
  · exact Or.inr ⟨T, r', i', n, h, hs, scan_no hl h4 h hs⟩
end Go.Proofs.YtpkggobhhieeoaaDoor
namespace Go.Proofs.YtpkggobhhieeoaaDoor
theorem run_split {r : List Nat} {i0 : Nat} {T : List Tok} {r' : List Nat} {i' : Nat} (h : Run r i0 T r' i') : ∀ (k : Nat) (x : Tok), T[k]? = some x → ∃ r1 i1, Run r i0 (T.take k) r1 i1 ∧ x.place = (i1 : Int) := by
  induction h with
  | done r i => intro k x hk; simp at hk
  | blank hb _ ih =>
    intro k x hk
    obtain ⟨r1, i1, h1, h2⟩ := ih k x hk
    exact ⟨r1, i1, .blank hb h1, h2⟩
  | @tok r i kd s v n T r' i' hnb ht _ ih =>
    intro k x hk
    cases k with
    | zero => simp at hk; subst hk; exact ⟨r, i, .done _ _, rfl⟩
    | succ k =>
      simp only [List.getElem?_cons_succ] at hk
      obtain ⟨r1, i1, h1, h2⟩ := ih k x hk
      exact ⟨r1, i1, .tok hnb ht h1, h2⟩
theorem scan_cut {s : List Nat} (hs : Bytes s) (h4 : s.length ≤ 4096) {T : List Tok} {i' : Nat} (h : Run s 0 T [] i') {k : Nat} {x : Tok} (hk : T[k]? = some x) : ∃ i1 : Nat, x.place = (i1 : Int) ∧ i1 ≤ s.length ∧ scanN (s.take i1) = (T.take k, 0, 0) := by
  obtain ⟨r1, i1, h1, h2⟩ := run_split h k x hk
  obtain ⟨m, h3, h5, _⟩ := h1.place hs
  have hc := h1.ctx hs [] (fun x hx => by cases hx) (.inr (.inl rfl))
  rw [List.append_nil, Nat.sub_zero] at hc
  exact ⟨i1, h2, by omega, scan_ok (bytes_take hs i1) (by rw [List.length_take]; omega) hc⟩
end Go.Proofs.YtpkggobhhieeoaaDoor
namespace Go.Proofs.YtpkggobhhieeoaaDoor
theorem Run.more {r : List Nat} {i : Nat} {T : List Tok} {r' : List Nat} {i' : Nat} (h : Run r i T r' i') : Bytes r → r' ≠ [] → ∀ y, Bytes y → Run (r ++ y) i T (r' ++ y) i' := by
  induction h with
  | done r i => intro _ _ y _; exact .done _ _
  | blank hb _ ih =>
    intro hr h0 y hy
    rw [List.cons_append]
    exact .blank hb (ih (fun x hx => hr x (List.mem_cons_of_mem _ hx)) h0 y hy)
  | @tok r i k s v n T r' i' hnb ht h ih =>
    intro hr h0 y hy
    obtain ⟨h4, h5, _⟩ := tok_some hr ht
    obtain ⟨m, h1, h2, h3⟩ := h.place (bytes_drop hr n)
    have hX := ih (bytes_drop hr n) h0 y hy
    have e : r.take n ++ (r.drop n ++ y) = r ++ y := by rw [← List.append_assoc, List.take_append_drop]
    have hd : r.drop n ≠ [] := fun e => h0 (by rw [h3, e, List.drop_nil])
    refine .tok (n := n) ?_ ?_ ?_
    · intro c hc
      refine hnb c ?_
      cases r with
      | nil => simp at h5; omega
      | cons a u => exact hc
    · rw [← e]
      refine tok_local hr (bytes_app (bytes_drop hr n) hy) ht (.inl ?_)
      cases hdd : r.drop n with
      | nil => exact absurd hdd hd
      | cons a u => rfl
    · rw [List.drop_append_of_le_length h5]
      exact hX
theorem parseN_scan {s : List Nat} (h : (scanN s).2.2 ≠ 0) : parseN s = ([], (scanN s).2.1, (scanN s).2.2) := by unfold parseN; rw [if_pos h]
theorem parseN_run {s : List Nat} {T : List Tok} (e : scanN s = (T, 0, 0)) : parseN s = match parseT T with
    | .ok t _ => if 256 < t.size ∨ 32 < t.deep then ([], 0, 4) else (t.flat 0, 0, 0)
    | .no i => ([], (match T[i]? with | some x => x.place.toNat | none => s.length), 80)
    | .out => ([], 0, 0) := by
  unfold parseN
  rw [if_neg (by rw [e]; simp), e]
  rfl
end Go.Proofs.YtpkggobhhieeoaaDoor
namespace Go.Proofs.YtpkggobhhieeoaaDoor
open Go.RowKit
theorem Quiet.cells {w w' : World} (h : Quiet w w') : ∀ p, w'.cell? p = w.cell? p := by
  obtain ⟨n, rfl⟩ := h
  exact fun _ => rfl
end Go.Proofs.YtpkggobhhieeoaaDoor
namespace Go.Proofs.YtpkggobhhieeoaaDoor
open Go.RowKit
section
variable {X X' : World} {B : Nat} {v v' : Value} {es : List (EN × Value)}
theorem EL.below (h : EL X B v es) (hb : Below X.heap.size X X') : EL X' B v es :=
  ⟨h.main.stay (fun b _ hl => hb.block b hl), fun i p hp => (h.kids i p hp).stay (fun b _ hl => hb.block b hl), h.apart⟩
end
theorem EL.mono {X : World} {B B' : Nat} {v : Value} {es : List (EN × Value)} (h : EL X B v es) (hb : B' ≤ B) : EL X B' v es :=
  ⟨h.main.mono hb, fun i p hp => (h.kids i p hp).mono hb, h.apart⟩
end Go.Proofs.YtpkggobhhieeoaaDoor
