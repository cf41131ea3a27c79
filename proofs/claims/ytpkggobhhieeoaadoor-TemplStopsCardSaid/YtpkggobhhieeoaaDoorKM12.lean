/- - - - - - -/
import Derived.Test.YtpkggobhhieeoaaDoorKM8
import Derived.Test.YtpkggobhhieeoaaDoorKM11
import Derived.Test.YtpkggobhhieeoaaDoorKImpS
import Derived.Test.YtpkggobhhieeoaaDoorKM4
set_option maxRecDepth 100000
set_option maxHeartbeats 32000000
set_option linter.unusedSimpArgs false
set_option linter.unusedVariables false
namespace Go.Proofs.YtpkggobhhieeoaaDoor
open Go.RowKit
theorem cut_split {s : List Nat} {b k : Nat} (h : b ≤ k) : s.drop b = cutN s b k ++ s.drop k := by
  unfold cutN
  rw [List.drop_take]
  have : s.drop k = (s.drop b).drop (k - b) := by rw [List.drop_drop]; congr 1; omega
  rw [this, List.take_append_drop]
theorem drop_cons {s : List Nat} {i c : Nat} (h : s[i]? = some c) : s.drop i = c :: s.drop (i + 1) := by
  obtain ⟨h1, h2⟩ := List.getElem?_eq_some_iff.1 h
  rw [List.drop_eq_getElem_cons h1, h2]
theorem nameTo_right {s : List Nat} {b : Nat} : ∀ (f n : Nat), (n = b ∨ rightN (cutN s b n) = true) → (nameTo s b f n = b ∨ rightN (cutN s b (nameTo s b f n)) = true)
  | 0, n, h => h
  | f + 1, n, h => by
    rw [nameTo]
    split
    · rename_i hc
      exact nameTo_right f (n + 1) (.inr hc.2)
    · exact h
theorem name_right {s : List Nat} {b k : Nat} {t : List Nat} (hb : b ≤ s.length) (h : nameS s b = .inl (t, k)) : rightN t = true ∧ s.drop b = t ++ s.drop k ∧ b < k ∧ k ≤ s.length ∧ t.length = k - b := by
  obtain ⟨h1, h2, h3, h4⟩ := name_some hb h
  have h5 := nameTo_right (s := s) (b := b) s.length b (.inl rfl)
  rw [show nameTo s b s.length b = k from h2.symm] at h5
  refine ⟨?_, ?_, h3, h4, ?_⟩
  · rw [h1]; exact h5.resolve_left (by omega)
  · rw [h1]; exact cut_split (by omega)
  · rw [h1, cut_len h4]
theorem mark_right {s : List Nat} {b k : Nat} {m : List Nat} (hs : Bytes s) (h : markS s b = .inl (m, k)) : s.drop b = quoteN m ++ s.drop k ∧ m ≠ [] ∧ Bytes m ∧ b < k ∧ k ≤ s.length ∧ m.length + b + 2 ≤ k := by
  obtain ⟨h1, h2, h3, h4, h5, h6, _⟩ := mark_some hs h
  have hd := drop_cons h1
  have hq := quote_tok hs hd.symm
  rw [h2] at hq
  have hl := unq_len20 _ _ _ _ _ _ hs h2
  rw [List.length_nil] at hl
  cases hqr : qR (s.drop (b + 1)) with
  | mk a n =>
    rw [hqr] at hq
    cases a with
    | none => simp at hq
    | some s1 =>
      simp only at hq
      injection hq with e1 e2
      injection e2 with e2 _
      subst e1
      obtain ⟨_, hn, _, p, hp1, hp2⟩ := qR_bound _ _ zL (bytes_drop hs _) _ _ hqr
      refine ⟨?_, h3, h4, h5, h6, by omega⟩
      have h7 : s.drop (b + 1) = (s.drop (b + 1)).take n ++ (s.drop (b + 1)).drop n := (List.take_append_drop _ _).symm
      rw [hd, h7, hp1, hp2, List.drop_drop, e2]
      unfold quoteN
      simp
theorem insert_right {s : List Nat} (hs : Bytes s) (h4 : s.length ≤ 4096) {i k : Nat} {p : Pc} (hi : insB s i = true) (h : insertS s (i + 1) = .inl (p, k)) (hk : s[k]? = some 125) :
    s.drop i = shownP p ++ s.drop (k + 1) ∧ plainP p = true ∧ p.kind ≠ 1 := by
  have h0 : s[i]? = some 123 := by unfold insB at hi; rw [Bool.and_eq_true] at hi; exact of_decide_eq_true hi.1
  have hk1 := drop_cons hk
  have hd0 := drop_cons h0
  have lt : ∀ {i c : Nat}, s[i]? = some c → i + 1 ≤ s.length := fun h => (List.getElem?_eq_some_iff.1 h).1
  have pl : ∀ (kd : Int) (x m : List Nat), x.length + m.length ≤ 4096 → kindP ⟨kd, x, m⟩ = true → plainP ⟨kd, x, m⟩ = true := fun kd x m h1 h2 => by
    unfold plainP
    rw [h2, Bool.and_true]
    exact decide_eq_true h1
  have hkt := lt hk
  unfold insertS at h
  by_cases c1 : s[i + 1]? = some 46
  · rw [if_pos c1] at h
    cases hn : nameS s (i + 1 + 1) with
    | inr j => rw [hn] at h; cases h
    | inl x =>
      obtain ⟨t, j⟩ := x
      rw [hn] at h
      injection h with h
      injection h with e1 e2
      subst e1 e2
      obtain ⟨a1, a2, a3, a4, a5⟩ := name_right (lt c1) hn
      refine ⟨?_, pl _ _ _ (by rw [List.length_nil]; omega) ?_, by simp⟩
      · rw [hd0, drop_cons c1, a2, hk1, shown_2]; simp
      · show (rightN t && decide (([] : List Nat) = [])) = true
        rw [a1]; rfl
  rw [if_neg c1] at h
  by_cases c2 : s[i + 1]? = some 35
  · rw [if_pos c2] at h
    cases hn : nameS s (i + 1 + 1) with
    | inr j => rw [hn] at h; cases h
    | inl x =>
      obtain ⟨t, j⟩ := x
      rw [hn] at h
      obtain ⟨a1, a2, a3, a4, a5⟩ := name_right (lt c2) hn
      simp only [thenS] at h
      split at h
      · rename_i hd
        cases hm : markS s (j + 1) with
        | inr j => rw [hm] at h; cases h
        | inl y =>
          obtain ⟨m, q⟩ := y
          rw [hm] at h
          injection h with h
          injection h with e1 e2
          subst e1 e2
          obtain ⟨b1, b2, b3, b4, b5, b6⟩ := mark_right hs hm
          refine ⟨?_, pl _ _ _ (by omega) ?_, by simp⟩
          · rw [hd0, drop_cons c2, a2, drop_cons hd, b1, hk1, shown_3m b2]; simp
          · exact a1
      · injection h with h
        injection h with e1 e2
        subst e1 e2
        refine ⟨?_, pl _ _ _ (by rw [List.length_nil]; omega) ?_, by simp⟩
        · rw [hd0, drop_cons c2, a2, hk1, shown_3]; simp
        · exact a1
  rw [if_neg c2] at h
  by_cases c3 : s[i + 1]? = some 45
  · rw [if_pos c3] at h
    split at h
    · rename_i he
      cases hn : nameS s (i + 1 + 2) with
      | inr j => rw [hn] at h; cases h
      | inl x =>
        obtain ⟨t, j⟩ := x
        rw [hn] at h
        obtain ⟨a1, a2, a3, a4, a5⟩ := name_right (lt he) hn
        simp only [thenS] at h
        split at h
        · rename_i hd
          cases hm : nameS s (j + 1) with
          | inr j => rw [hm] at h; cases h
          | inl y =>
            obtain ⟨m, q⟩ := y
            rw [hm] at h
            injection h with h
            injection h with e1 e2
            subst e1 e2
            obtain ⟨b1, b2, b3, b4, b5⟩ := name_right (lt hd) hm
            have hm0 := right_ne b1
            refine ⟨?_, pl _ _ _ (by omega) ?_, by simp⟩
            · rw [hd0, drop_cons c3, drop_cons he, show i + 1 + 1 + 1 = i + 1 + 2 by omega, a2, drop_cons hd, b2, hk1, shown_4m hm0]; simp
            · show (rightN t && (decide (m = []) || rightN m)) = true
              rw [a1, b1]; simp
        · injection h with h
          injection h with e1 e2
          subst e1 e2
          refine ⟨?_, pl _ _ _ (by rw [List.length_nil]; omega) ?_, by simp⟩
          · rw [hd0, drop_cons c3, drop_cons he, show i + 1 + 1 + 1 = i + 1 + 2 by omega, a2, hk1, shown_4]; simp
          · show (rightN t && (decide (([] : List Nat) = []) || rightN [])) = true
            rw [a1]; rfl
    · cases h
  rw [if_neg c3] at h
  by_cases c4 : s[i + 1]? = some 61
  · rw [if_pos c4] at h
    cases hn : exprS s (i + 1 + 1) with
    | inr j => rw [hn] at h; cases h
    | inl x =>
      obtain ⟨t, j⟩ := x
      rw [hn] at h
      injection h with h
      injection h with e1 e2
      subst e1 e2
      obtain ⟨a1, a2, a3, a4, a5⟩ := expr_some hs (lt c4) hn
      have a6 : s.drop (i + 1 + 1) = t ++ s.drop j := by rw [a1]; exact cut_split a3
      have a7 : t.length ≤ 4096 := by rw [a1, cut_len a4]; omega
      refine ⟨?_, pl _ _ _ (by rw [List.length_nil]; omega) ?_, by simp⟩
      · rw [hd0, drop_cons c4, a6, hk1, shown_5]; simp
      · show (decide ((parseN t).2.2 = 0) && decide (([] : List Nat) = [])) = true
        rw [decide_eq_true a5]; rfl
  · rw [if_neg c4] at h; cases h
theorem word_right {s : List Nat} : ∀ (f i : Nat) (o t : List Nat) (k : Nat), wordS s f i o = .inl (t, k) → s.length - i ≤ f → ∃ w, t = o ++ w ∧ s.drop i = bracesN w ++ s.drop k ∧ (s.length ≤ k ∨ insB s k = true)
  | 0, i, o, t, k, h, hf => by
    injection h with h
    injection h with e1 e2
    subst e1 e2
    exact ⟨[], by simp, rfl, .inl (by omega)⟩
  | f + 1, i, o, t, k, h, hf => by
    rw [wordS] at h
    cases hc : s[i]? with
    | none =>
      rw [hc] at h
      injection h with h
      injection h with e1 e2
      subst e1 e2
      exact ⟨[], by simp, rfl, .inl (List.getElem?_eq_none_iff.1 hc)⟩
    | some c =>
      rw [hc] at h
      have hlt := (List.getElem?_eq_some_iff.1 hc).1
      simp only at h
      split at h
      · rename_i h1
        injection h with h
        injection h with e1 e2
        subst e1 e2
        refine ⟨[], by simp, rfl, .inr ?_⟩
        unfold insB
        rw [hc, h1.1]
        simpa using h1.2
      · split at h
        · rename_i h2
          split at h
          · rename_i h3
            obtain ⟨w, e1, e2, e3⟩ := word_right f (i + 2) (o ++ [c]) t k h (by omega)
            refine ⟨c :: w, by rw [e1]; simp, ?_, e3⟩
            rw [drop_cons hc, drop_cons h3, braces_cons, if_pos h2, e2]
            rfl
          · cases h
        · rename_i h2
          obtain ⟨w, e1, e2, e3⟩ := word_right f (i + 1) (o ++ [c]) t k h (by omega)
          refine ⟨c :: w, by rw [e1]; simp, ?_, e3⟩
          rw [drop_cons hc, braces_cons, if_neg h2, e2]
          rfl
theorem unq_err_in : ∀ (f i : Nat) (l o s : List Nat) (k e : Nat), Bytes l → i ≤ l.length → unq l f i o = (s, k, e) → e ≠ 0 → i ≤ k ∧ k ≤ l.length
  | 0, i, l, o, s, k, e, _, hi, h, _ => by
    injection h with _ h
    injection h with h _
    subst h
    exact ⟨Nat.le_refl _, hi⟩
  | f + 1, i, l, o, s, k, e, hl, hi, h, he => by
    rw [unq] at h
    split at h
    · injection h with _ h
      injection h with _ h
      exact absurd h.symm he
    · rename_i h34
      split at h
      · rename_i c n m hone
        obtain ⟨h1, h2⟩ := one_len (bytes_drop hl i) (by rw [List.head?_drop]; exact h34) hone
        rw [List.length_drop] at h2
        obtain ⟨h3, h4⟩ := unq_err_in f (i + n) l _ s k e hl (by omega) h he
        exact ⟨by omega, h4⟩
      · rename_i far hone
        injection h with _ h
        injection h with h _
        have := one_far_le (bytes_drop hl i) hone
        rw [List.length_drop] at this
        omega
theorem insert_no {s : List Nat} (hs : Bytes s) (h4 : s.length ≤ 4096) {b k : Nat} (hb : b ≤ s.length) (h : insertS s b = .inr k) : b ≤ k ∧ k ≤ s.length := by
  have lt : ∀ {i c : Nat}, s[i]? = some c → i + 1 ≤ s.length := fun h => (List.getElem?_eq_some_iff.1 h).1
  unfold insertS at h
  by_cases c1 : s[b]? = some 46
  · rw [if_pos c1] at h
    have := lt c1
    cases hn : nameS s (b + 1) with
    | inl x => rw [hn] at h; cases h
    | inr j =>
      rw [hn] at h
      injection h with h
      have := (name_none hn).1
      omega
  rw [if_neg c1] at h
  by_cases c2 : s[b]? = some 35
  · rw [if_pos c2] at h
    have := lt c2
    cases hn : nameS s (b + 1) with
    | inr j =>
      rw [hn] at h
      injection h with h
      have := (name_none hn).1
      omega
    | inl x =>
      obtain ⟨t, j⟩ := x
      rw [hn] at h
      obtain ⟨_, _, a3, a4⟩ := name_some (lt c2) hn
      simp only [thenS] at h
      split at h
      · rename_i hd
        have hlt := lt hd
        cases hm : markS s (j + 1) with
        | inl y => rw [hm] at h; cases h
        | inr q =>
          rw [hm] at h
          injection h with h
          subst h
          unfold markS at hm
          split at hm
          · injection hm with hm; omega
          · rename_i h34
            have h34 : s[j + 1]? = some 34 := by simpa using h34
            have hlt2 := lt h34
            split at hm
            · rename_i he
              injection hm with hm
              have := unq_err_in (s.length + 1) (j + 1 + 1) s [] (quoteAt s (j + 1)).1 (quoteAt s (j + 1)).2.1 (quoteAt s (j + 1)).2.2 hs hlt2 rfl he
              omega
            · split at hm
              · injection hm with hm; omega
              · cases hm
      · cases h
  rw [if_neg c2] at h
  by_cases c3 : s[b]? = some 45
  · rw [if_pos c3] at h
    have := lt c3
    split at h
    · rename_i he
      have := lt he
      cases hn : nameS s (b + 2) with
      | inr j =>
        rw [hn] at h
        injection h with h
        have := (name_none hn).1
        omega
      | inl x =>
        obtain ⟨t, j⟩ := x
        rw [hn] at h
        obtain ⟨_, _, a3, a4⟩ := name_some (lt he) hn
        simp only [thenS] at h
        split at h
        · rename_i hd
          have := lt hd
          cases hm : nameS s (j + 1) with
          | inl y => rw [hm] at h; cases h
          | inr q =>
            rw [hm] at h
            injection h with h
            have := (name_none hm).1
            omega
        · cases h
    · injection h with h; omega
  rw [if_neg c3] at h
  by_cases c4 : s[b]? = some 61
  · rw [if_pos c4] at h
    have := lt c4
    cases hn : exprS s (b + 1) with
    | inl x => rw [hn] at h; cases h
    | inr j =>
      rw [hn] at h
      injection h with h
      subst h
      unfold exprS at hn
      split at hn
      · injection hn with hn
        have h1 := end_in hs s.length (b + 1) this
        rw [show endTo s s.length (b + 1) = endE s (b + 1) from rfl] at h1
        have h2 := parse_in (cut_bytes hs (b + 1) (endE s (b + 1))) (by rw [cut_len h1.2]; omega)
        rw [cut_len h1.2] at h2
        omega
      · cases hn
  · rw [if_neg c4] at h; injection h with h; omega
theorem row_right {s : List Nat} (hs : Bytes s) (h4 : s.length ≤ 4096) : ∀ (f i : Nat) (o m : List Pc) (a e : Nat), rowS s f i o = (m, a, e) → i ≤ s.length → s.length - i ≤ f → o.length ≤ 64 →
    (e = 0 → a = 0 ∧ m.length ≤ 64 ∧ ∃ ps, m = o ++ ps ∧ s.drop i = ps.flatMap shownP ∧ ∀ (w : Bool) (k : Nat), (w = true → s.length ≤ i ∨ insB s i = true) → (rightG w k ps).2 = 0) ∧ (e ≠ 0 → m = [] ∧ i ≤ a ∧ a ≤ s.length ∧ (e = 4 ∨ e = 200))
  | 0, i, o, m, a, e, h, hi, hf, ho => by
    injection h with h1 h2
    injection h2 with h2 h3
    subst h1 h2 h3
    refine ⟨fun _ => ⟨rfl, ho, [], by simp, ?_, fun _ _ _ => rfl⟩, fun h => absurd rfl h⟩
    rw [List.drop_eq_nil_of_le (by omega)]
    rfl
  | f + 1, i, o, m, a, e, h, hi, hf, ho => by
    by_cases hl : s.length ≤ i
    · have := row_end h hl
      injection this with h1 h2
      injection h2 with h2 h3
      subst h1 h2 h3
      refine ⟨fun _ => ⟨rfl, ho, [], by simp, ?_, fun _ _ _ => rfl⟩, fun h => absurd rfl h⟩
      rw [List.drop_eq_nil_of_le hl]
      rfl
    · by_cases h64 : o.length = 64
      · have := row_full h (by omega) (by omega) h64
        injection this with h1 h2
        injection h2 with h2 h3
        subst h1 h2 h3
        exact ⟨fun h => absurd h (by decide), fun _ => ⟨rfl, Nat.le_refl _, hi, .inl rfl⟩⟩
      · cases hb : insB s i with
        | true =>
          cases hp : insertS s (i + 1) with
          | inr k =>
            have := row_ins_bad h (by omega) (by omega) h64 hb hp
            injection this with h1 h2
            injection h2 with h2 h3
            subst h1 h2 h3
            have := insert_no hs h4 (by omega) hp
            exact ⟨fun h => absurd h (by decide), fun _ => ⟨rfl, by omega, this.2, .inr rfl⟩⟩
          | inl x =>
            obtain ⟨p, k⟩ := x
            have hk2 := insert_some hs h4 (by omega) hp
            by_cases hk : s[k]? = some 125
            · have h2 := row_ins h (by omega) (by omega) h64 hb hp hk
              have hkl := (List.getElem?_eq_some_iff.1 hk).1
              obtain ⟨r1, r2, r3⟩ := insert_right hs h4 hb hp hk
              obtain ⟨g1, g2⟩ := row_right hs h4 f (k + 1) (o ++ [p]) m a e h2 (by omega) (by omega) (by rw [List.length_append, List.length_singleton]; omega)
              refine ⟨fun he => ?_, fun he => ?_⟩
              · obtain ⟨b1, b2, ps, b3, b4, b5⟩ := g1 he
                refine ⟨b1, b2, p :: ps, by rw [b3]; simp, by rw [r1, b4]; rfl, fun w k' _ => ?_⟩
                rw [rightG, if_pos ⟨r2, fun hw => r3 hw.2⟩]
                exact b5 _ _ (fun hw => absurd (of_decide_eq_true hw) r3)
              · obtain ⟨b1, b2, b3, b4⟩ := g2 he
                exact ⟨b1, by omega, b3, b4⟩
            · have := row_ins_no h (by omega) (by omega) h64 hb hp hk
              injection this with h1 h2
              injection h2 with h2 h3
              subst h1 h2 h3
              exact ⟨fun h => absurd h (by decide), fun _ => ⟨rfl, by omega, hk2.2.2, .inr rfl⟩⟩
        | false =>
          have hwi := word_in hs s.length i [] hi bytes_nil
          cases hp : wordS s s.length i [] with
          | inr k =>
            rw [hp] at hwi
            have := row_word_no h (by omega) (by omega) h64 hb hp
            injection this with h1 h2
            injection h2 with h2 h3
            subst h1 h2 h3
            exact ⟨fun h => absurd h (by decide), fun _ => ⟨rfl, hwi.1, hwi.2, .inr rfl⟩⟩
          | inl x =>
            obtain ⟨t, k⟩ := x
            rw [hp] at hwi
            obtain ⟨w1, w2, w3, w4⟩ := hwi
            have hon := word_on hs (by omega) hb hp
            have h2 := row_word h (by omega) (by omega) h64 hb hp
            obtain ⟨w, e1, e2, e3⟩ := word_right _ _ _ _ _ hp (by omega)
            rw [List.nil_append] at e1
            subst e1
            obtain ⟨g1, g2⟩ := row_right hs h4 f k (o ++ [(⟨1, t, []⟩ : Pc)]) m a e h2 w3 (by omega) (by rw [List.length_append, List.length_singleton]; omega)
            refine ⟨fun he => ?_, fun he => ?_⟩
            · obtain ⟨b1, b2, ps, b3, b4, b5⟩ := g1 he
              refine ⟨b1, b2, ⟨1, t, []⟩ :: ps, by rw [b3]; simp, by rw [e2, b4]; rfl, fun wb k' hw => ?_⟩
              have hne : t ≠ [] := fun e => by
                rw [e] at e2
                have h5 : s.drop i = s.drop k := e2
                have := congrArg List.length h5
                rw [List.length_drop, List.length_drop] at this
                omega
              have hpl : plainP ⟨1, t, []⟩ = true := by
                have h6 : kindP ⟨1, t, []⟩ = true := by
                  show (decide (t ≠ []) && decide (([] : List Nat) = [])) = true
                  simp [hne]
                have h7 : t.length + ([] : List Nat).length ≤ 4096 := by rw [List.length_nil] at w4 ⊢; omega
                unfold plainP
                rw [h6, Bool.and_true]
                exact decide_eq_true h7
              have hnw : ¬ (wb = true ∧ (⟨1, t, []⟩ : Pc).kind = 1) := fun hw2 => by
                rcases hw hw2.1 with h5 | h5
                · omega
                · simp [hb] at h5
              rw [rightG, if_pos ⟨hpl, hnw⟩]
              exact b5 _ _ (fun _ => e3)
            · obtain ⟨b1, b2, b3, b4⟩ := g2 he
              exact ⟨b1, by omega, b3, b4⟩
theorem parse_print {s : List Nat} (hs : Bytes s) {m : List Pc} {a e : Nat} (h : rowN s = (m, a, e)) :
    (e = 0 → a = 0 ∧ (rightP m).2 = 0 ∧ printP m = (s, 0) ∧ m.length ≤ 64) ∧ (e ≠ 0 → m = [] ∧ a ≤ s.length ∧ (e = 4 ∨ e = 200 ∨ (e = 3 ∧ a = 0 ∧ 4096 < s.length))) := by
  unfold rowN at h
  split at h
  · injection h with h1 h2
    injection h2 with h2 h3
    subst h1 h2 h3
    rename_i hb
    exact ⟨fun h => absurd h (by decide), fun _ => ⟨rfl, Nat.zero_le _, .inr (.inr ⟨rfl, rfl, hb⟩)⟩⟩
  · obtain ⟨g1, g2⟩ := row_right hs (by omega) s.length 0 [] m a e h (Nat.zero_le _) (by omega) (by simp)
    refine ⟨fun he => ?_, fun he => ?_⟩
    · obtain ⟨b1, b2, ps, b3, b4, b5⟩ := g1 he
      rw [List.nil_append] at b3
      subst b3
      rw [List.drop_zero] at b4
      have hr : (rightP m).2 = 0 := by
        unfold rightP
        rw [if_neg (by omega)]
        exact b5 false 0 (fun h => by cases h)
      refine ⟨b1, hr, ?_, b2⟩
      unfold printP
      rw [if_neg (by simpa using hr), if_neg (by rw [← b4]; omega), ← b4]
    · obtain ⟨b1, _, b3, b4⟩ := g2 he
      exact ⟨b1, b3, by rcases b4 with h | h <;> simp [h]⟩
end Go.Proofs.YtpkggobhhieeoaaDoor
namespace Go.Proofs.YtpkggobhhieeoaaDoor
open Go.RowKit
section
variable {s : List Nat} {a i b k n f f' : Nat}
theorem take_get (h : i < a) : (s.take a)[i]? = s[i]? := by rw [List.getElem?_take, if_pos h]
theorem take_none (h : a ≤ i) : (s.take a)[i]? = none := List.getElem?_eq_none (by rw [List.length_take]; omega)
theorem cut_take (h : n ≤ a) : cutN (s.take a) b n = cutN s b n := by
  unfold cutN
  rw [List.take_take, Nat.min_eq_left h]
theorem quoteAt_qR (hs : Bytes s) (i : Nat) : quoteAt s i = match qR (s.drop (i + 1)) with
    | (some t, n) => (t, i + 1 + n, 0)
    | (none, n) => ([], i + 1 + n, 10) := by
  have := unq_qS (s.length + 1) (i + 1) s [] hs (by rw [List.length_drop]; omega)
  unfold quoteAt
  rw [this]
  rcases qR (s.drop (i + 1)) with ⟨_ | t, n⟩ <;> rfl
theorem quote_cut (hs : Bytes s) {t : List Nat} (h : quoteAt s i = (t, k, 0)) (hk : k ≤ a) : quoteAt (s.take a) i = (t, k, 0) := by
  rw [quoteAt_qR hs] at h
  rw [quoteAt_qR (bytes_take hs a)]
  rcases hq : qR (s.drop (i + 1)) with ⟨_ | t', n⟩
  · rw [hq] at h; simp at h
  · rw [hq] at h
    simp only at h
    injection h with h1 h2
    injection h2 with h2 _
    obtain ⟨g1, g2, _⟩ := qR_bound _ _ zL (bytes_drop hs (i + 1)) _ _ hq
    have e : (s.take a).drop (i + 1) = (s.drop (i + 1)).take n ++ ((s.drop (i + 1)).drop n).take (a - (i + 1) - n) := by
      rw [List.drop_take, ← List.take_add]
      congr 1
      omega
    have := qR_local (bytes_drop hs (i + 1)) hq (((s.drop (i + 1)).drop n).take (a - (i + 1) - n)) (bytes_take (bytes_drop (bytes_drop hs _) _) _)
    rw [e, this]
    simp only
    rw [h1, h2]
theorem quote_uncut (hs : Bytes s) {t : List Nat} (h : quoteAt (s.take a) i = (t, k, 0)) : quoteAt s i = (t, k, 0) := by
  rw [quoteAt_qR (bytes_take hs a)] at h
  rw [quoteAt_qR hs]
  rcases hq : qR ((s.take a).drop (i + 1)) with ⟨_ | t', n⟩
  · rw [hq] at h; simp at h
  · rw [hq] at h
    obtain ⟨g1, g2, _⟩ := qR_bound _ _ zL (bytes_drop (bytes_take hs a) (i + 1)) _ _ hq
    have := qR_local (bytes_drop (bytes_take hs a) (i + 1)) hq ((s.drop (i + 1)).drop n) (bytes_drop (bytes_drop hs _) _)
    have e : ((s.take a).drop (i + 1)).take n ++ (s.drop (i + 1)).drop n = s.drop (i + 1) := by
      rw [List.drop_take, List.take_take, Nat.min_eq_left, List.take_append_drop]
      rw [List.drop_take, List.length_take] at g2
      omega
    rw [e] at this
    rw [this]
    exact h
theorem quote_fault (hs : Bytes s) {t : List Nat} {e : Nat} (h : quoteAt s i = (t, k, e)) (he : e ≠ 0) : quoteAt (s.take k) i = ([], k, 10) := by
  rw [quoteAt_qR hs] at h
  rw [quoteAt_qR (bytes_take hs k)]
  rcases hq : qR (s.drop (i + 1)) with ⟨_ | t', n⟩
  · rw [hq] at h
    simp only at h
    injection h with h1 h2
    injection h2 with h2 _
    have := (qR_cut _ _ zL (bytes_drop hs (i + 1)) _ hq).2.1
    have e : (s.take k).drop (i + 1) = (s.drop (i + 1)).take n := by rw [List.drop_take]; congr 1; omega
    rw [e, this]
    simp only
    rw [h2]
  · rw [hq] at h
    simp only at h
    injection h with h1 h2
    injection h2 with _ h2
    exact absurd h2.symm he
theorem name_cut : ∀ (f n f' : Nat), s.length ≤ f + n → nameTo s b f n = k → n ≤ s.length → k ≤ a → k ≤ f' + n → nameTo (s.take a) b f' n = k
  | 0, n, f', hf, h, hn, hk, hf' => by
    have h : n = k := h
    subst h
    cases f' with
    | zero => rfl
    | succ f' => rw [nameTo, if_neg (fun ⟨h1, _⟩ => by rw [List.length_take] at h1; omega)]
  | f + 1, n, f', hf, h, hn, hk, hf' => by
    rw [nameTo] at h
    by_cases hc : n < s.length ∧ rightN (cutN s b (n + 1)) = true
    · rw [if_pos hc] at h
      have h1 := name_in (s := s) (b := b) f (n + 1) hc.1
      rw [h] at h1
      cases f' with
      | zero => omega
      | succ f' =>
        rw [nameTo, if_pos ⟨by rw [List.length_take]; omega, by rw [cut_take (by omega)]; exact hc.2⟩]
        exact name_cut f (n + 1) f' (by omega) h hc.1 hk (by omega)
    · rw [if_neg hc] at h
      subst h
      cases f' with
      | zero => rfl
      | succ f' =>
        rw [nameTo, if_neg]
        rintro ⟨h1, h2⟩
        rw [List.length_take] at h1
        rw [cut_take (by omega)] at h2
        exact hc ⟨by omega, h2⟩
theorem nameE_cut (hb : b ≤ s.length) (hk : nameE s b ≤ a) : nameE (s.take a) b = nameE s b := by
  have h := nameE_in hb
  exact name_cut s.length b (s.take a).length (by omega) rfl hb hk (by rw [List.length_take]; show nameE s b ≤ _; omega)
theorem nameS_cut {t : List Nat} (hb : b ≤ s.length) (h : nameS s b = .inl (t, k)) (hk : k ≤ a) : nameS (s.take a) b = .inl (t, k) := by
  obtain ⟨h1, h2, h3, h4⟩ := name_some hb h
  have e := nameE_cut (a := a) hb (by omega)
  unfold nameS
  rw [e, if_neg (by omega), ← h2, cut_take hk, ← h1]
theorem nameS_no (hb : b ≤ s.length) (h : nameS s b = .inr k) : k = b ∧ nameS (s.take b) b = .inr b := by
  obtain ⟨h1, h2⟩ := name_none h
  have e := nameE_cut (a := b) hb (by omega)
  unfold nameS
  rw [e, if_pos h2]
  exact ⟨h1, rfl⟩
theorem markS_cut (hs : Bytes s) {t : List Nat} (h : markS s b = .inl (t, k)) (hk : k ≤ a) : markS (s.take a) b = .inl (t, k) := by
  obtain ⟨h1, h2, h3, h4, h5, h6, _⟩ := mark_some hs h
  have e := quote_cut hs h2 hk
  unfold markS
  rw [take_get (by omega), if_neg (by rw [h1]; simp), e]
  simp only
  rw [if_neg (by simp), if_neg h3]
theorem mark_no_in (hs : Bytes s) (hb : b ≤ s.length) (h : markS s b = .inr k) : b ≤ k ∧ k ≤ s.length := by
  unfold markS at h
  split at h
  · injection h with h; omega
  · rename_i h1
    have h1 := (List.getElem?_eq_some_iff.1 (show s[b]? = some 34 by simpa using h1)).1
    split at h
    · injection h with h
      rename_i h2
      rw [quoteAt_qR hs] at h h2
      rcases hq : qR (s.drop (b + 1)) with ⟨_ | t', n⟩
      · rw [hq] at h
        have := (qR_cut _ _ zL (bytes_drop hs (b + 1)) _ hq).1
        rw [List.length_drop] at this
        simp only at h
        omega
      · rw [hq] at h2
        exact absurd rfl h2
    · split at h
      · injection h with h; omega
      · cases h
theorem markS_no (hs : Bytes s) (h : markS s b = .inr k) : markS (s.take k) b = .inr k := by
  unfold markS at h
  split at h
  · injection h with h
    subst h
    unfold markS
    rw [take_none zL, if_pos (by simp)]
  · rename_i h1
    have h1 : s[b]? = some 34 := by simpa using h1
    split at h
    · rename_i h2
      injection h with h
      rcases hq : quoteAt s b with ⟨t, k', e⟩
      rw [hq] at h h2
      simp only at h h2
      subst h
      have e := quote_fault hs hq h2
      have hb : b < k' := by
        rw [quoteAt_qR hs] at hq
        rcases hq' : qR (s.drop (b + 1)) with ⟨_ | t', n⟩ <;> (rw [hq'] at hq; simp only at hq; injection hq with _ hq; injection hq with hq _; omega)
      unfold markS
      rw [take_get hb, if_neg (by rw [h1]; simp), e]
      rfl
    · rename_i h2
      split at h
      · rename_i h3
        injection h with h
        subst h
        have : quoteAt (s.take (b + 1)) b = ([], b + 1, 10) := by
          rw [quoteAt_qR (bytes_take hs _), List.drop_eq_nil_of_le (by rw [List.length_take]; omega)]
          rfl
        unfold markS
        rw [take_get (Nat.lt_succ_self _), if_neg (by rw [h1]; simp), this]
        rfl
      · cases h
end
end Go.Proofs.YtpkggobhhieeoaaDoor
namespace Go.Proofs.YtpkggobhhieeoaaDoor
open Go.RowKit
section
variable {s : List Nat} {a i b k n f f' : Nat}
theorem quoteTo_cut (hs : Bytes s) (hi : i < s.length) (h : quoteTo s i ≤ a) : quoteTo (s.take a) i = quoteTo s i := by
  rcases hq : quoteAt s i with ⟨t, k, e⟩
  by_cases he : e = 0
  · subst he
    have h1 : quoteTo s i = k := by unfold quoteTo; rw [hq]; rfl
    rw [h1] at h ⊢
    have := quote_cut hs hq h
    unfold quoteTo
    rw [this]
    rfl
  · have h1 : quoteTo s i = s.length := by unfold quoteTo; rw [hq]; rw [if_neg he]
    rw [h1] at h
    rw [List.take_of_length_le h]
theorem end_cut (hs : Bytes s) : ∀ (f i f' : Nat), s.length ≤ f + i → endTo s f i = k → i ≤ s.length → k ≤ a → k ≤ f' + i → endTo (s.take a) f' i = k
  | 0, i, f', hf, h, hi, hk, hf' => by
    have h : i = k := h
    subst h
    cases f' with
    | zero => rfl
    | succ f' => rw [endTo, if_neg (fun ⟨h1, _⟩ => by rw [List.length_take] at h1; omega)]
  | f + 1, i, f', hf, h, hi, hk, hf' => by
    rw [endTo] at h
    by_cases hc : i < s.length ∧ s[i]? ≠ some 125
    · rw [if_pos hc] at h
      by_cases h34 : s[i]? = some 34
      · rw [if_pos h34] at h
        have hq := quoteTo_in hs hc.1
        have h1 := end_in hs f (quoteTo s i) hq.2
        rw [h] at h1
        cases f' with
        | zero => omega
        | succ f' =>
          rw [endTo, if_pos ⟨by rw [List.length_take]; omega, by rw [take_get (by omega)]; exact hc.2⟩, take_get (by omega), if_pos h34, quoteTo_cut hs hc.1 (by omega)]
          exact end_cut hs f _ f' (by omega) h hq.2 hk (by omega)
      · rw [if_neg h34] at h
        have h1 := end_in hs f (i + 1) hc.1
        rw [h] at h1
        cases f' with
        | zero => omega
        | succ f' =>
          rw [endTo, if_pos ⟨by rw [List.length_take]; omega, by rw [take_get (by omega)]; exact hc.2⟩, take_get (by omega), if_neg h34]
          exact end_cut hs f _ f' (by omega) h hc.1 hk (by omega)
    · rw [if_neg hc] at h
      subst h
      cases f' with
      | zero => rfl
      | succ f' =>
        rw [endTo, if_neg]
        rintro ⟨h1, h2⟩
        rw [List.length_take] at h1
        rw [take_get (by omega)] at h2
        exact hc ⟨by omega, h2⟩
theorem end_far (hs : Bytes s) (ha : a ≤ s.length) : ∀ (f i f' : Nat), a ≤ endTo s f i → i ≤ a → a ≤ f' + i → endTo (s.take a) f' i = a
  | f, i, f', h, hi, hf' => by
    have hT : (s.take a).length = a := by rw [List.length_take]; omega
    rcases Nat.lt_or_ge i a with hlt | hge
    · cases f with
      | zero => have h : a ≤ i := h; omega
      | succ f =>
        rw [endTo] at h
        by_cases hc : i < s.length ∧ s[i]? ≠ some 125
        · rw [if_pos hc] at h
          cases f' with
          | zero => omega
          | succ f' =>
            have hc' : i < (s.take a).length ∧ (s.take a)[i]? ≠ some 125 := ⟨by omega, by rw [take_get hlt]; exact hc.2⟩
            rw [endTo, if_pos hc', take_get hlt]
            by_cases h34 : s[i]? = some 34
            · rw [if_pos h34] at h ⊢
              rcases hq : quoteAt (s.take a) i with ⟨t, k, e⟩
              by_cases he : e = 0
              · subst he
                have h1 : quoteTo (s.take a) i = k := by unfold quoteTo; rw [hq]; rfl
                have h2 : quoteTo s i = k := by unfold quoteTo; rw [quote_uncut hs hq]; rfl
                have h3 := quote_in (bytes_take hs a) hq
                rw [hT] at h3
                rw [h2] at h
                rw [h1]
                exact end_far hs ha f k f' h h3.2.2 (by omega)
              · have h1 : quoteTo (s.take a) i = a := by unfold quoteTo; rw [hq, if_neg he, hT]
                rw [h1]
                cases f' with
                | zero => rfl
                | succ f' => rw [endTo, if_neg (fun ⟨x, _⟩ => by omega)]
            · rw [if_neg h34] at h ⊢
              exact end_far hs ha f (i + 1) f' h hlt (by omega)
        · rw [if_neg hc] at h
          omega
    · have : i = a := by omega
      subst this
      cases f' with
      | zero => rfl
      | succ f' => rw [endTo, if_neg (fun ⟨x, _⟩ => by omega)]
theorem exprS_cut (hs : Bytes s) {t : List Nat} (hb : b ≤ s.length) (h : exprS s b = .inl (t, k)) (hk : k ≤ a) : exprS (s.take a) b = .inl (t, k) := by
  obtain ⟨h1, h2, h3, h4, h5⟩ := expr_some hs hb h
  have e : endE (s.take a) b = k := end_cut hs s.length b _ (by omega) h2.symm hb hk (by rw [List.length_take]; omega)
  unfold exprS
  rw [e, cut_take hk, ← h1, if_neg (by omega)]
theorem exprS_no (hs : Bytes s) (h4 : s.length ≤ 4096) (hb : b ≤ s.length) (h : exprS s b = .inr k) : b ≤ k ∧ k ≤ s.length ∧ ((∃ t, exprS (s.take k) b = .inl (t, k)) ∨ ∃ j, exprS (s.take k) b = .inr j ∧ j ≤ k) := by
  have he : b ≤ endE s b ∧ endE s b ≤ s.length := end_in hs s.length b hb
  have hp : k = b + (parseN (cutN s b (endE s b))).2.1 := by
    unfold exprS at h
    split at h
    · injection h with h; exact h.symm
    · cases h
  have hl := parse_in (cut_bytes hs b (endE s b)) (by rw [cut_len he.2]; omega)
  rw [cut_len he.2] at hl
  have hk : k ≤ endE s b := by have : b ≤ endE s b := he.1; omega
  have hks : k ≤ s.length := Nat.le_trans hk he.2
  have hT : (s.take k).length = k := by rw [List.length_take]; omega
  have e : endE (s.take k) b = k := end_far hs hks s.length b _ hk (by omega) (by rw [hT]; omega)
  refine ⟨by omega, hks, ?_⟩
  have hl' := parse_in (cut_bytes (bytes_take hs k) b k) (by rw [cut_len (by omega)]; omega)
  rw [cut_len (by omega)] at hl'
  unfold exprS
  rw [e]
  split
  · exact .inr ⟨_, rfl, by omega⟩
  · exact .inl ⟨_, rfl⟩
theorem word_cut (hs : Bytes s) : ∀ (f i : Nat) (o : List Nat) (w : List Nat) (f' : Nat), Bytes o → s.length ≤ f + i → wordS s f i o = .inl (w, k) → i ≤ s.length → k ≤ a → k ≤ f' + i → wordS (s.take a) f' i o = .inl (w, k)
  | 0, i, o, w, f', ho, hf, h, hi, hk, hf' => by
    injection h with h
    injection h with h1 h2
    subst h1 h2
    cases f' with
    | zero => rfl
    | succ f' => rw [wordS, List.getElem?_eq_none (by rw [List.length_take]; omega)]
  | f + 1, i, o, w, f', ho, hf, h, hi, hk, hf' => by
    rw [wordS] at h
    cases hc : s[i]? with
    | none =>
      rw [hc] at h
      injection h with h
      injection h with h1 h2
      subst h1 h2
      cases f' with
      | zero => rfl
      | succ f' =>
        rw [wordS, List.getElem?_eq_none (by rw [List.length_take]; have := List.getElem?_eq_none_iff.1 hc; omega)]
    | some c =>
      rw [hc] at h
      simp only at h
      have hil := (List.getElem?_eq_some_iff.1 hc).1
      have hc256 : c < 256 := hs c (List.mem_iff_getElem?.2 ⟨i, hc⟩)
      have hoc : Bytes (o ++ [c]) := fun x hx => by
        rcases List.mem_append.1 hx with h | h
        · exact ho x h
        · rw [List.mem_singleton.1 h]; exact hc256
      by_cases h1 : c = 123 ∧ s[i + 1]? ≠ some 123
      · rw [if_pos h1] at h
        injection h with h
        injection h with e1 e2
        subst e1 e2
        cases f' with
        | zero => rfl
        | succ f' =>
          rw [wordS]
          rcases Nat.lt_or_ge i a with hlt | hge
          · rw [take_get hlt, hc]
            simp only
            rw [if_pos]
            refine ⟨h1.1, fun e => h1.2 ?_⟩
            rcases Nat.lt_or_ge (i + 1) a with hlt' | hge'
            · rwa [take_get hlt'] at e
            · rw [take_none hge'] at e; cases e
          · rw [take_none hge]
      · rw [if_neg h1] at h
        by_cases h2 : c = 123 ∨ c = 125
        · rw [if_pos h2] at h
          by_cases h3 : s[i + 1]? = some c
          · rw [if_pos h3] at h
            have h5 := (List.getElem?_eq_some_iff.1 h3).1
            have h6 := word_in hs f (i + 2) (o ++ [c]) h5 hoc
            rw [h] at h6
            have h7 : i + 2 ≤ k := h6.2.1
            cases f' with
            | zero => omega
            | succ f' =>
              rw [wordS, take_get (by omega), hc]
              simp only
              rw [take_get (by omega), if_neg h1, if_pos h2, if_pos h3]
              exact word_cut hs f (i + 2) _ w f' hoc (by omega) h h5 hk (by omega)
          · rw [if_neg h3] at h; cases h
        · rw [if_neg h2] at h
          have h6 := word_in hs f (i + 1) (o ++ [c]) hil hoc
          rw [h] at h6
          have h7 : i + 1 ≤ k := h6.2.1
          cases f' with
          | zero => omega
          | succ f' =>
            rw [wordS, take_get (by omega), hc]
            simp only
            rw [if_neg (fun ⟨x, _⟩ => h2 (.inl x)), if_neg h2]
            exact word_cut hs f (i + 1) _ w f' hoc (by omega) h hil hk (by omega)
theorem word_cut_no (hs : Bytes s) : ∀ (f i : Nat) (o : List Nat) (f' : Nat), Bytes o → wordS s f i o = .inr k → i ≤ s.length → k ≤ f' + i → i < k ∧ k ≤ s.length ∧ wordS (s.take k) f' i o = .inr k
  | 0, i, o, f', ho, h, hi, hf' => by cases h
  | f + 1, i, o, f', ho, h, hi, hf' => by
    rw [wordS] at h
    cases hc : s[i]? with
    | none => rw [hc] at h; cases h
    | some c =>
      rw [hc] at h
      simp only at h
      have hil := (List.getElem?_eq_some_iff.1 hc).1
      have hc256 : c < 256 := hs c (List.mem_iff_getElem?.2 ⟨i, hc⟩)
      have hoc : Bytes (o ++ [c]) := fun x hx => by
        rcases List.mem_append.1 hx with h | h
        · exact ho x h
        · rw [List.mem_singleton.1 h]; exact hc256
      by_cases h1 : c = 123 ∧ s[i + 1]? ≠ some 123
      · rw [if_pos h1] at h; cases h
      · rw [if_neg h1] at h
        by_cases h2 : c = 123 ∨ c = 125
        · rw [if_pos h2] at h
          by_cases h3 : s[i + 1]? = some c
          · rw [if_pos h3] at h
            have h5 := (List.getElem?_eq_some_iff.1 h3).1
            obtain ⟨g1, g2, _⟩ := word_cut_no hs f (i + 2) (o ++ [c]) k hoc h h5 (by omega)
            refine ⟨by omega, g2, ?_⟩
            cases f' with
            | zero => omega
            | succ f' =>
              have := word_cut_no hs f (i + 2) (o ++ [c]) f' hoc h h5 (by omega)
              rw [wordS, take_get (by omega), hc]
              simp only
              rw [take_get (by omega), if_neg h1, if_pos h2, if_pos h3]
              exact this.2.2
          · rw [if_neg h3] at h
            injection h with h
            subst h
            refine ⟨by omega, hil, ?_⟩
            cases f' with
            | zero => omega
            | succ f' =>
              have h125 : c = 125 := by
                rcases h2 with rfl | rfl
                · exact absurd ⟨rfl, h3⟩ h1
                · rfl
              subst h125
              rw [wordS, take_get (by omega), hc]
              simp only
              rw [take_none zL, if_neg (by simp), if_pos (by simp), if_neg (by simp)]
        · rw [if_neg h2] at h
          obtain ⟨g1, g2, _⟩ := word_cut_no hs f (i + 1) (o ++ [c]) k hoc h hil (by omega)
          refine ⟨by omega, g2, ?_⟩
          cases f' with
          | zero => omega
          | succ f' =>
            have := word_cut_no hs f (i + 1) (o ++ [c]) f' hoc h hil (by omega)
            rw [wordS, take_get (by omega), hc]
            simp only
            rw [if_neg (fun ⟨x, _⟩ => h2 (.inl x)), if_neg h2]
            exact this.2.2
end
end Go.Proofs.YtpkggobhhieeoaaDoor
namespace Go.Proofs.YtpkggobhhieeoaaDoor
open Go.RowKit
section
variable {s : List Nat} {a i b k n f f' : Nat}
theorem lt_of_get {c : Nat} (h : s[i]? = some c) : i + 1 ≤ s.length := (List.getElem?_eq_some_iff.1 h).1
theorem insert_cut (hs : Bytes s) {p : Pc} (h : insertS s b = .inl (p, k)) (hk : k ≤ a) : b < a ∧ insertS (s.take a) b = .inl (p, k) := by
  unfold insertS at h
  split at h
  · rename_i h1
    cases hn : nameS s (b + 1) with
    | inr j => rw [hn] at h; cases h
    | inl x =>
      obtain ⟨t, j⟩ := x
      rw [hn] at h
      have h0 := h
      injection h with h
      injection h with e1 e2
      subst e2
      have hx := name_some (lt_of_get h1) hn
      unfold insertS
      refine ⟨by omega, ?_⟩
      rw [take_get (by omega), if_pos h1, nameS_cut (lt_of_get h1) hn hk]
      exact h0
  · rename_i n1
    split at h
    · rename_i h1
      cases hn : nameS s (b + 1) with
      | inr j => rw [hn] at h; cases h
      | inl x =>
        obtain ⟨t, j⟩ := x
        rw [hn] at h
        have hx := name_some (lt_of_get h1) hn
        simp only [thenS] at h
        split at h
        · rename_i h2
          cases hm : markS s (j + 1) with
          | inr q => rw [hm] at h; cases h
          | inl y =>
            obtain ⟨m, q⟩ := y
            rw [hm] at h
            have h0 := h
            injection h with h
            injection h with e1 e2
            subst e2
            have hy := mark_some hs hm
            unfold insertS
            refine ⟨by omega, ?_⟩
            rw [take_get (by omega), if_neg n1, if_pos h1, nameS_cut (lt_of_get h1) hn (by omega)]
            simp only [thenS]
            rw [take_get (by omega), if_pos h2, markS_cut hs hm hk]
            exact h0
        · rename_i h2
          have h0 := h
          injection h with h
          injection h with e1 e2
          subst e2
          unfold insertS
          refine ⟨by omega, ?_⟩
          rw [take_get (by omega), if_neg n1, if_pos h1, nameS_cut (lt_of_get h1) hn hk]
          simp only [thenS]
          rw [if_neg]
          · exact h0
          · intro e
            rcases Nat.lt_or_ge j a with hlt | hge
            · rw [take_get hlt] at e; exact h2 e
            · rw [take_none hge] at e; cases e
    · rename_i n2
      split at h
      · rename_i h1
        split at h
        · rename_i g1
          cases hn : nameS s (b + 2) with
          | inr j => rw [hn] at h; cases h
          | inl x =>
            obtain ⟨t, j⟩ := x
            rw [hn] at h
            have hx := name_some (lt_of_get g1) hn
            simp only [thenS] at h
            split at h
            · rename_i h2
              cases hm : nameS s (j + 1) with
              | inr q => rw [hm] at h; cases h
              | inl y =>
                obtain ⟨m, q⟩ := y
                rw [hm] at h
                have h0 := h
                injection h with h
                injection h with e1 e2
                subst e2
                have hy := name_some (lt_of_get h2) hm
                unfold insertS
                refine ⟨by omega, ?_⟩
                rw [take_get (by omega), if_neg n1, if_neg n2, if_pos h1, take_get (by omega), if_pos g1, nameS_cut (lt_of_get g1) hn (by omega)]
                simp only [thenS]
                rw [take_get (by omega), if_pos h2, nameS_cut (lt_of_get h2) hm hk]
                exact h0
            · rename_i h2
              have h0 := h
              injection h with h
              injection h with e1 e2
              subst e2
              unfold insertS
              refine ⟨by omega, ?_⟩
              rw [take_get (by omega), if_neg n1, if_neg n2, if_pos h1, take_get (by omega), if_pos g1, nameS_cut (lt_of_get g1) hn hk]
              simp only [thenS]
              rw [if_neg]
              · exact h0
              · intro e
                rcases Nat.lt_or_ge j a with hlt | hge
                · rw [take_get hlt] at e; exact h2 e
                · rw [take_none hge] at e; cases e
        · cases h
      · rename_i n3
        split at h
        · rename_i h1
          cases hn : exprS s (b + 1) with
          | inr j => rw [hn] at h; cases h
          | inl x =>
            obtain ⟨t, j⟩ := x
            rw [hn] at h
            have h0 := h
            injection h with h
            injection h with e1 e2
            subst e2
            have hx := expr_some hs (lt_of_get h1) hn
            unfold insertS
            refine ⟨by omega, ?_⟩
            rw [take_get (by omega), if_neg n1, if_neg n2, if_neg n3, if_pos h1, exprS_cut hs (lt_of_get h1) hn hk]
            exact h0
        · cases h
theorem insert_cut_no (hs : Bytes s) (h4 : s.length ≤ 4096) (hb : b ≤ s.length) (h : insertS s b = .inr k) : b ≤ k ∧ k ≤ s.length ∧ (insertS (s.take k) b = .inr k ∨
    (s[b]? = some 61 ∧ ((∃ p, insertS (s.take k) b = .inl (p, k)) ∨ ∃ j, insertS (s.take k) b = .inr j ∧ j ≤ k))) := by
  unfold insertS at h
  split at h
  · rename_i h1
    cases hn : nameS s (b + 1) with
    | inl x => obtain ⟨t, j⟩ := x; rw [hn] at h; cases h
    | inr j =>
      rw [hn] at h
      injection h with h
      subst h
      obtain ⟨e1, e2⟩ := nameS_no (lt_of_get h1) hn
      subst e1
      refine ⟨by omega, lt_of_get h1, .inl ?_⟩
      unfold insertS
      rw [take_get (by omega), if_pos h1, e2]
      rfl
  · rename_i n1
    split at h
    · rename_i h1
      cases hn : nameS s (b + 1) with
      | inr j =>
        rw [hn] at h
        injection h with h
        subst h
        obtain ⟨e1, e2⟩ := nameS_no (lt_of_get h1) hn
        subst e1
        refine ⟨by omega, lt_of_get h1, .inl ?_⟩
        unfold insertS
        rw [take_get (by omega), if_neg n1, if_pos h1, e2]
        rfl
      | inl x =>
        obtain ⟨t, j⟩ := x
        rw [hn] at h
        have hx := name_some (lt_of_get h1) hn
        simp only [thenS] at h
        split at h
        · rename_i h2
          cases hm : markS s (j + 1) with
          | inl y => obtain ⟨m, q⟩ := y; rw [hm] at h; cases h
          | inr q =>
            rw [hm] at h
            injection h with h
            subst h
            have hb2 := mark_no_in hs (lt_of_get h2) hm
            refine ⟨by omega, hb2.2, .inl ?_⟩
            unfold insertS
            rw [take_get (by omega), if_neg n1, if_pos h1, nameS_cut (lt_of_get h1) hn (by omega)]
            simp only [thenS]
            rw [take_get (by omega), if_pos h2, markS_no hs hm]
        · cases h
    · rename_i n2
      split at h
      · rename_i h1
        split at h
        · rename_i g1
          cases hn : nameS s (b + 2) with
          | inr j =>
            rw [hn] at h
            injection h with h
            subst h
            obtain ⟨e1, e2⟩ := nameS_no (lt_of_get g1) hn
            subst e1
            refine ⟨by omega, lt_of_get g1, .inl ?_⟩
            unfold insertS
            rw [take_get (by omega), if_neg n1, if_neg n2, if_pos h1, take_get (by omega), if_pos g1, e2]
            rfl
          | inl x =>
            obtain ⟨t, j⟩ := x
            rw [hn] at h
            have hx := name_some (lt_of_get g1) hn
            simp only [thenS] at h
            split at h
            · rename_i h2
              cases hm : nameS s (j + 1) with
              | inl y => obtain ⟨m, q⟩ := y; rw [hm] at h; cases h
              | inr q =>
                rw [hm] at h
                injection h with h
                subst h
                obtain ⟨e1, e2⟩ := nameS_no (lt_of_get h2) hm
                subst e1
                refine ⟨by omega, lt_of_get h2, .inl ?_⟩
                unfold insertS
                rw [take_get (by omega), if_neg n1, if_neg n2, if_pos h1, take_get (by omega), if_pos g1, nameS_cut (lt_of_get g1) hn (by omega)]
                simp only [thenS]
                rw [take_get (by omega), if_pos h2, e2]
            · cases h
        · rename_i g1
          injection h with h
          subst h
          refine ⟨by omega, lt_of_get h1, .inl ?_⟩
          unfold insertS
          rw [take_get (by omega), if_neg n1, if_neg n2, if_pos h1, take_none zL, if_neg (by simp)]
      · rename_i n3
        split at h
        · rename_i h1
          cases hn : exprS s (b + 1) with
          | inl x => obtain ⟨t, j⟩ := x; rw [hn] at h; cases h
          | inr j =>
            rw [hn] at h
            injection h with h
            subst h
            obtain ⟨g1, g2, g3⟩ := exprS_no hs h4 (lt_of_get h1) hn
            have e : insertS (s.take j) b = thenS (exprS (s.take j) (b + 1)) fun t k => .inl (⟨5, t, []⟩, k) := by
              unfold insertS
              rw [take_get (by omega), if_neg n1, if_neg n2, if_neg n3, if_pos h1]
            refine ⟨by omega, g2, .inr ⟨h1, ?_⟩⟩
            rw [e]
            rcases g3 with ⟨t, ht⟩ | ⟨q, hq, hqk⟩
            · rw [ht]; exact .inl ⟨_, rfl⟩
            · rw [hq]; exact .inr ⟨_, rfl, hqk⟩
        · injection h with h
          subst h
          refine ⟨Nat.le_refl _, hb, .inl ?_⟩
          unfold insertS
          rw [take_none zL]
          simp
def asksN (s : List Nat) : Prop := ∃ j, s[j]? = some 123 ∧ s[j + 1]? = some 61
theorem insB_parts (h : insB s i = true) : s[i]? = some 123 ∧ s[i + 1]? ≠ some 123 := by
  unfold insB at h
  simpa using h
theorem insB_cut (hi : i < a) : insB s i = true → insB (s.take a) i = true := by
  intro h
  obtain ⟨h1, h2⟩ := insB_parts h
  unfold insB
  rw [take_get hi, h1]
  rcases Nat.lt_or_ge (i + 1) a with hlt | hge
  · rw [take_get hlt]; simpa using h2
  · rw [take_none hge]; rfl
theorem insB_word (hs : Bytes s) (hi : i < s.length) (h : insB s i = false) {x : (List Nat × Nat) ⊕ Nat} (hw : wordS s s.length i [] = x) (hx : ∀ k, (x = .inr k ∨ ∃ w, x = .inl (w, k)) → k ≤ a) : i < a ∧ insB (s.take a) i = false := by
  obtain ⟨f, hf⟩ : ∃ g, s.length = g + 1 := ⟨s.length - 1, by omega⟩
  obtain ⟨c, hc⟩ : ∃ c, s[i]? = some c := ⟨_, List.getElem?_eq_getElem hi⟩
  have hc256 : c < 256 := hs c (List.mem_iff_getElem?.2 ⟨i, hc⟩)
  have hoc : Bytes ([] ++ [c]) := fun y hy => by simp at hy; subst hy; exact hc256
  have h1 : ¬ (c = 123 ∧ s[i + 1]? ≠ some 123) := fun ⟨e1, e2⟩ => by
    rw [insB, hc, e1] at h
    simp at h
    exact e2 h
  rw [hf, wordS, hc] at hw
  simp only at hw
  rw [if_neg h1] at hw
  have win : ∀ {g j : Nat} {o : List Nat}, j ≤ s.length → Bytes o → wordS s g j o = x → j ≤ a := fun {g j o} hj ho e => by
    have := word_in hs g j o hj ho
    rw [e] at this
    cases x with
    | inl y => obtain ⟨w, k⟩ := y; have h2 := hx k (.inr ⟨w, rfl⟩); have h3 : j ≤ k := this.2.1; omega
    | inr k => have h2 := hx k (.inl rfl); have h3 : j ≤ k := this.1; omega
  by_cases h123 : c = 123
  · subst h123
    have h2 : s[i + 1]? = some 123 := by
      by_cases e : s[i + 1]? = some 123
      · exact e
      · exact absurd ⟨rfl, e⟩ h1
    rw [if_pos (.inl rfl), if_pos h2] at hw
    have := win (lt_of_get h2) hoc hw
    refine ⟨by omega, ?_⟩
    unfold insB
    rw [take_get (by omega), take_get (by omega), hc, h2]
    rfl
  · have hia : i < a := by
      by_cases h2 : c = 123 ∨ c = 125
      · rw [if_pos h2] at hw
        by_cases h3 : s[i + 1]? = some c
        · rw [if_pos h3] at hw
          have := win (lt_of_get h3) hoc hw
          omega
        · rw [if_neg h3] at hw
          have := hx (i + 1) (.inl hw.symm)
          omega
      · rw [if_neg h2] at hw
        have := win hi hoc hw
        omega
    refine ⟨hia, ?_⟩
    unfold insB
    rw [take_get hia, hc]
    simp [h123]
end
end Go.Proofs.YtpkggobhhieeoaaDoor
namespace Go.Proofs.YtpkggobhhieeoaaDoor
open Go.RowKit
def StopIs (s : List Nat) (a e : Nat) (R : List Pc × Nat × Nat) : Prop :=
  (e = 4 ∧ R.2.2 = 0 ∧ R.1.length = 64) ∨ (e = 200 ∧ (R.2.2 = 0 ∨ (R.2.2 = 200 ∧ (R.2.1 = a ∨ (R.2.1 < a ∧ asksN s)))))
theorem StopIs.at_ {s : List Nat} {a : Nat} {R : List Pc × Nat × Nat} {l : List Pc} (h : R = (l, a, 200)) : StopIs s a 200 R := by
  subst h
  exact .inr ⟨rfl, .inr ⟨rfl, .inl rfl⟩⟩
theorem stop_row {s : List Nat} (hs : Bytes s) (h4 : s.length ≤ 4096) {a e : Nat} : ∀ (f i : Nat) (o m : List Pc), s.length ≤ f + i → i ≤ s.length → rowS s f i o = (m, a, e) → e ≠ 0 →
    i ≤ a ∧ a ≤ s.length ∧ ∀ (f' : Nat) (R : List Pc × Nat × Nat), a ≤ f' + i → rowS (s.take a) f' i o = R → StopIs s a e R
  | 0, i, o, m, hf, hi, h, he => by
    injection h with _ h
    injection h with _ h
    exact absurd h.symm he
  | f + 1, i, o, m, hf, hi, h, he => by
    rcases Nat.lt_or_ge i s.length with hlt | hge
    · by_cases ho : o.length = 64
      · have hR := row_full h (by omega) hlt ho
        injection hR with _ hR
        injection hR with e1 e2
        subst e1 e2
        refine ⟨Nat.le_refl _, hi, fun f' R _ hr => ?_⟩
        have := row_end hr (by rw [List.length_take]; omega)
        subst this
        exact .inl ⟨rfl, rfl, ho⟩
      · by_cases hb : insB s i = true
        · cases hp : insertS s (i + 1) with
          | inr k =>
            have hR := row_ins_bad h (by omega) hlt ho hb hp
            injection hR with _ hR
            injection hR with e1 e2
            subst e1 e2
            obtain ⟨g1, g2, g3⟩ := insert_cut_no hs h4 hlt hp
            refine ⟨by omega, g2, fun f' R hf' hr => ?_⟩
            have hia : i < (s.take a).length := by rw [List.length_take]; omega
            have hb' := insB_cut (a := a) (by omega) hb
            have hn : ∀ j, j ≥ a → (s.take a)[j]? ≠ some 125 := fun j hj => by rw [take_none hj]; simp
            rcases g3 with g3 | ⟨h61, ⟨p, g3⟩ | ⟨j, g3, hj⟩⟩
            · exact .at_ (row_ins_bad hr (by omega) hia ho hb' g3)
            · exact .at_ (row_ins_no hr (by omega) hia ho hb' g3 (hn a zL))
            · have := row_ins_bad hr (by omega) hia ho hb' g3
              subst this
              refine .inr ⟨rfl, .inr ⟨rfl, ?_⟩⟩
              rcases Nat.lt_or_ge j a with hlt' | hge'
              · exact .inr ⟨hlt', i, (insB_parts hb).1, h61⟩
              · exact .inl (by show j = a; omega)
          | inl x =>
            obtain ⟨p, k⟩ := x
            have hk := insert_some hs h4 hlt hp
            by_cases h125 : s[k]? = some 125
            · have hr := row_ins h (by omega) hlt ho hb hp h125
              obtain ⟨g1, g2, g3⟩ := stop_row hs h4 f (k + 1) (o ++ [p]) m (by omega) (lt_of_get h125) hr he
              refine ⟨by omega, g2, fun f' R hf' hr' => ?_⟩
              have hia : i < (s.take a).length := by rw [List.length_take]; omega
              have := row_ins hr' (by omega) hia ho (insB_cut (by omega) hb) (insert_cut hs hp (by omega)).2 (by rw [take_get (by omega)]; exact h125)
              exact g3 (f' - 1) R (by omega) this
            · have hR := row_ins_no h (by omega) hlt ho hb hp h125
              injection hR with _ hR
              injection hR with e1 e2
              subst e1 e2
              refine ⟨by omega, hk.2.2, fun f' R hf' hr => ?_⟩
              have hia : i < (s.take a).length := by rw [List.length_take]; omega
              exact .at_ (row_ins_no hr (by omega) hia ho (insB_cut (by omega) hb) (insert_cut hs hp zL).2 (by rw [take_none zL]; simp))
        · have hb : insB s i = false := by simpa using hb
          cases hp : wordS s s.length i [] with
          | inr k =>
            have hR := row_word_no h (by omega) hlt ho hb hp
            injection hR with _ hR
            injection hR with e1 e2
            subst e1 e2
            obtain ⟨g1, g2, _⟩ := word_cut_no hs s.length i [] s.length bytes_nil hp hi (by have := (word_cut_no hs s.length i [] (s.length + a) bytes_nil hp hi (by omega)).2.1; omega)
            obtain ⟨_, hb'⟩ := insB_word (a := a) hs hlt hb hp (fun k hk => by
              rcases hk with hk | ⟨w, hk⟩
              · injection hk with hk; omega
              · cases hk)
            refine ⟨by omega, g2, fun f' R hf' hr => ?_⟩
            have hT : (s.take a).length = a := by rw [List.length_take]; omega
            have hw := (word_cut_no hs s.length i [] (s.take a).length bytes_nil hp hi (by omega)).2.2
            exact .at_ (row_word_no hr (by omega) (by omega) ho hb' hw)
          | inl x =>
            obtain ⟨w, k⟩ := x
            have hr : rowS s f k (o ++ [(⟨1, w, []⟩ : Pc)]) = (m, a, e) := row_word h (by omega) hlt ho hb hp
            have hik := word_on hs hlt hb hp
            have hks : k ≤ s.length := by
              have := word_in hs s.length i [] hi bytes_nil
              rw [hp] at this
              exact this.2.2.1
            obtain ⟨g1, g2, g3⟩ := stop_row hs h4 f k (o ++ [⟨1, w, []⟩]) m (by omega) hks hr he
            refine ⟨by omega, g2, fun f' R hf' hr' => ?_⟩
            have hT : (s.take a).length = a := by rw [List.length_take]; omega
            obtain ⟨_, hb'⟩ := insB_word (a := a) hs hlt hb hp (fun q hq => by
              rcases hq with hq | ⟨w', hq⟩
              · cases hq
              · injection hq with hq; injection hq with _ hq; omega)
            have hw := word_cut (a := a) hs s.length i [] w (s.take a).length bytes_nil (by omega) hp hi g1 (by omega)
            have := row_word hr' (by omega) (by omega) ho hb' hw
            exact g3 (f' - 1) R (by omega) this
    · have := row_end h hge
      injection this with _ h
      injection h with _ h
      exact absurd h he
theorem stop_law {s : List Nat} (hs : Bytes s) {m : List Pc} {a e : Nat} (h : rowN s = (m, a, e)) :
    (e = 0 ∧ a = 0 ∧ m.length ≤ 64) ∨ (e = 3 ∧ a = 0 ∧ 4096 < s.length) ∨ (e ≠ 0 ∧ e ≠ 3 ∧ a ≤ s.length ∧ StopIs s a e (rowN (s.take a))) := by
  obtain ⟨h0, h1⟩ := parse_print hs h
  by_cases he : e = 0
  · exact .inl ⟨he, (h0 he).1, (h0 he).2.2.2⟩
  · by_cases h4 : 4096 < s.length
    · have : ([], 0, 3) = (m, a, e) := by rw [← h, rowN, if_pos h4]
      injection this with _ this
      injection this with e1 e2
      exact .inr (.inl ⟨e2.symm, e1.symm, h4⟩)
    · refine .inr (.inr ?_)
      rw [rowN, if_neg h4] at h
      obtain ⟨_, g2, g3⟩ := stop_row hs (by omega) s.length 0 [] m (by omega) (Nat.zero_le _) h he
      have hT : (s.take a).length = a := by rw [List.length_take]; omega
      have hr : rowN (s.take a) = rowS (s.take a) (s.take a).length 0 [] := by rw [rowN, if_neg (by omega)]
      have := g3 (s.take a).length _ (by omega) hr.symm
      refine ⟨he, ?_, g2, this⟩
      rcases this with h | h <;> omega
end Go.Proofs.YtpkggobhhieeoaaDoor
