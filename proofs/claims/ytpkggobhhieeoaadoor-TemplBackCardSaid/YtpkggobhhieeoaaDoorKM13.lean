/- - - - - - -/
import Derived.Test.YtpkggobhhieeoaaDoorKM12
import Derived.Test.YtpkggobhhieeoaaDoorKTpZ
import Derived.Test.YtpkggobhhieeoaaDoorKM10
import Derived.Test.YtpkggobhhieeoaaDoorKM8
import Derived.Test.YtpkggobhhieeoaaDoorKM11
set_option maxRecDepth 100000
set_option maxHeartbeats 32000000
set_option linter.unusedSimpArgs false
set_option linter.unusedVariables false
namespace Go.Proofs.YtpkggobhhieeoaaDoor
open Go.RowKit
theorem further_ends : furtherN 125 = false ∧ furtherN 32 = false ∧ furtherN 46 = false := by decide
theorem plain_split {p : Pc} (h : plainP p = true) : p.text.length + p.mark.length ≤ 4096 ∧
    ((p.kind = 1 ∧ p.text ≠ [] ∧ p.mark = []) ∨ (p.kind = 2 ∧ rightN p.text = true ∧ p.mark = []) ∨ (p.kind = 3 ∧ rightN p.text = true) ∨ (p.kind = 4 ∧ rightN p.text = true ∧ (p.mark = [] ∨ rightN p.mark = true)) ∨ (p.kind = 5 ∧ (parseN p.text).2.2 = 0 ∧ p.mark = [])) := by
  refine ⟨plain_len h, ?_⟩
  unfold plainP at h
  rw [Bool.and_eq_true] at h
  obtain ⟨_, h⟩ := h
  unfold kindP at h
  split at h
  · rename_i hk
    rw [Bool.and_eq_true] at h
    exact .inl ⟨hk, of_decide_eq_true h.1, of_decide_eq_true h.2⟩
  · split at h
    · rename_i hk
      rw [Bool.and_eq_true] at h
      exact .inr (.inl ⟨hk, h.1, of_decide_eq_true h.2⟩)
    · split at h
      · rename_i hk
        exact .inr (.inr (.inl ⟨hk, h⟩))
      · split at h
        · rename_i hk
          rw [Bool.and_eq_true, Bool.or_eq_true] at h
          exact .inr (.inr (.inr (.inl ⟨hk, h.1, h.2.imp of_decide_eq_true id⟩)))
        · split at h
          · rename_i hk
            rw [Bool.and_eq_true] at h
            exact .inr (.inr (.inr (.inr ⟨hk, of_decide_eq_true h.1, of_decide_eq_true h.2⟩)))
          · cases h
theorem shown_2 {x m : List Nat} : shownP ⟨2, x, m⟩ = 123 :: 46 :: (x ++ [125]) := rfl
theorem shown_3 {x : List Nat} : shownP ⟨3, x, []⟩ = 123 :: 35 :: (x ++ [125]) := rfl
theorem shown_3m {x m : List Nat} (h : m ≠ []) : shownP ⟨3, x, m⟩ = 123 :: 35 :: (x ++ 32 :: (quoteN m ++ [125])) := by
  show (if m = [] then _ else [123, 35] ++ x ++ [32] ++ quoteN m ++ [125]) = _
  rw [if_neg h]
  simp
theorem shown_4 {x : List Nat} : shownP ⟨4, x, []⟩ = 123 :: 45 :: 62 :: (x ++ [125]) := rfl
theorem shown_4m {x m : List Nat} (h : m ≠ []) : shownP ⟨4, x, m⟩ = 123 :: 45 :: 62 :: (x ++ 46 :: (m ++ [125])) := by
  show (if m = [] then _ else [123, 45, 62] ++ x ++ [46] ++ m ++ [125]) = _
  rw [if_neg h]
  simp
theorem shown_5 {x m : List Nat} : shownP ⟨5, x, m⟩ = 123 :: 61 :: (x ++ [125]) := rfl
theorem shown_1 {x m : List Nat} : shownP ⟨1, x, m⟩ = bracesN x := rfl
theorem ins_at {t y : List Nat} {i : Nat} {p : Pc} (ht : Bytes t) (hp : plainP p = true) (hk : p.kind ≠ 1) (hx : Bytes p.text) (hm : Bytes p.mark) (h : t.drop i = shownP p ++ y) :
    insB t i = true ∧ ∃ j, insertS t (i + 1) = .inl (p, j) ∧ t[j]? = some 125 ∧ j + 1 = i + (shownP p).length := by
  obtain ⟨hl, hc⟩ := plain_split hp
  obtain ⟨k, x, m⟩ := p
  simp only at hl hc hk hx hm
  have hb : ∀ c z, shownP ⟨k, x, m⟩ = 123 :: c :: z → c ≠ 123 → t[i + 1]? = some c ∧ insB t i = true ∧ t.drop (i + 2) = z ++ y := fun c z hs hc => by
    rw [hs] at h
    have h0 := at_drop h 0
    have h1 := at_drop h 1
    simp at h0 h1
    refine ⟨h1, by unfold insB; rw [h0, h1]; simpa using hc, ?_⟩
    rw [← List.drop_drop, h]
    rfl
  rcases hc with ⟨rfl, _⟩ | ⟨rfl, hr, rfl⟩ | ⟨rfl, hr⟩ | ⟨rfl, hr, hmk⟩ | ⟨rfl, hpe, rfl⟩
  · exact absurd rfl hk
  · obtain ⟨h1, h2, h3⟩ := hb _ _ shown_2 (by decide)
    rw [List.append_assoc] at h3
    have hn := name_at h3 hr (fun c hc => by injection hc with hc; subst hc; exact further_ends.1)
    have hd := drop_more h3
    refine ⟨h2, i + 2 + x.length, ?_, ?_, ?_⟩
    · unfold insertS
      rw [h1, if_pos rfl, hn]
      rfl
    · have := at_drop hd 0
      simpa using this
    · rw [shown_2]; simp; omega
  · by_cases hm0 : m = []
    · subst hm0
      obtain ⟨h1, h2, h3⟩ := hb _ _ shown_3 (by decide)
      rw [List.append_assoc] at h3
      have hn := name_at h3 hr (fun c hc => by injection hc with hc; subst hc; exact further_ends.1)
      have hd := drop_more h3
      have hj : t[i + 2 + x.length]? = some 125 := by have := at_drop hd 0; simpa using this
      refine ⟨h2, i + 2 + x.length, ?_, hj, ?_⟩
      · unfold insertS
        rw [h1, if_neg (by decide), if_pos rfl, hn]
        simp only [thenS]
        rw [if_neg (by rw [hj]; decide)]
      · rw [shown_3]; simp; omega
    · obtain ⟨h1, h2, h3⟩ := hb _ _ (shown_3m hm0) (by decide)
      have h3' : t.drop (i + 2) = x ++ 32 :: (quoteN m ++ 125 :: y) := by rw [h3]; simp
      have hn := name_at h3' hr (fun c hc => by injection hc with hc; subst hc; exact further_ends.2.1)
      have hd := drop_more h3'
      have hj : t[i + 2 + x.length]? = some 32 := by have := at_drop hd 0; simpa using this
      have hd2 : t.drop (i + 2 + x.length + 1) = quoteN m ++ 125 :: y := by rw [← List.drop_drop, hd]; rfl
      have hq := mark_at ht hm hd2 hm0
      have hd3 := drop_more hd2
      have hj2 : t[i + 2 + x.length + 1 + (quoteN m).length]? = some 125 := by have := at_drop hd3 0; simpa using this
      refine ⟨h2, _, ?_, hj2, ?_⟩
      · unfold insertS
        rw [h1, if_neg (by decide), if_pos rfl, hn]
        simp only [thenS]
        rw [if_pos hj, hq]
      · rw [shown_3m hm0]; simp; omega
  · have hb2 : ∀ z, shownP ⟨4, x, m⟩ = 123 :: 45 :: 62 :: z → t[i + 1]? = some 45 ∧ t[i + 1 + 1]? = some 62 ∧ insB t i = true ∧ t.drop (i + 1 + 2) = z ++ y := fun z hs => by
      obtain ⟨h1, h2, h3⟩ := hb _ _ hs (by decide)
      have h4 := at_drop h3 0
      simp at h4
      refine ⟨h1, h4, h2, ?_⟩
      rw [show i + 1 + 2 = i + 2 + 1 by omega, ← List.drop_drop, h3]
      rfl
    by_cases hm0 : m = []
    · subst hm0
      obtain ⟨h1, h1', h2, h3⟩ := hb2 _ shown_4
      rw [List.append_assoc] at h3
      have hn := name_at h3 hr (fun c hc => by injection hc with hc; subst hc; exact further_ends.1)
      have hd := drop_more h3
      have hj : t[i + 1 + 2 + x.length]? = some 125 := by have := at_drop hd 0; simpa using this
      refine ⟨h2, i + 1 + 2 + x.length, ?_, hj, ?_⟩
      · unfold insertS
        rw [h1, if_neg (by decide), if_neg (by decide), if_pos rfl, h1', if_pos rfl, hn]
        simp only [thenS]
        rw [if_neg (by rw [hj]; decide)]
      · rw [shown_4]; simp; omega
    · have hmr : rightN m = true := hmk.resolve_left hm0
      obtain ⟨h1, h1', h2, h3⟩ := hb2 _ (shown_4m hm0)
      have h3' : t.drop (i + 1 + 2) = x ++ 46 :: (m ++ 125 :: y) := by rw [h3]; simp
      have hn := name_at h3' hr (fun c hc => by injection hc with hc; subst hc; exact further_ends.2.2)
      have hd := drop_more h3'
      have hj : t[i + 1 + 2 + x.length]? = some 46 := by have := at_drop hd 0; simpa using this
      have hd2 : t.drop (i + 1 + 2 + x.length + 1) = m ++ 125 :: y := by rw [← List.drop_drop, hd]; rfl
      have hn2 := name_at hd2 hmr (fun c hc => by injection hc with hc; subst hc; exact further_ends.1)
      have hd3 := drop_more hd2
      have hj2 : t[i + 1 + 2 + x.length + 1 + m.length]? = some 125 := by have := at_drop hd3 0; simpa using this
      refine ⟨h2, _, ?_, hj2, ?_⟩
      · unfold insertS
        rw [h1, if_neg (by decide), if_neg (by decide), if_pos rfl, h1', if_pos rfl, hn]
        simp only [thenS]
        rw [if_pos hj, hn2]
      · rw [shown_4m hm0]; simp; omega
  · obtain ⟨h1, h2, h3⟩ := hb _ _ shown_5 (by decide)
    have h3' : t.drop (i + 1 + 1) = x ++ 125 :: y := by rw [show i + 1 + 1 = i + 2 by omega, h3]; simp
    have hn := expr_at ht hx (by omega) h3' hpe
    have hd := drop_more h3'
    have hj : t[i + 1 + 1 + x.length]? = some 125 := by have := at_drop hd 0; simpa using this
    refine ⟨h2, _, ?_, hj, ?_⟩
    · unfold insertS
      rw [h1, if_neg (by decide), if_neg (by decide), if_neg (by decide), if_pos rfl, hn]
      rfl
    · rw [shown_5]; simp; omega
theorem shown_head {p : Pc} (hp : plainP p = true) (hk : p.kind ≠ 1) : ∃ c z, shownP p = 123 :: c :: z ∧ c ≠ 123 := by
  obtain ⟨_, hc⟩ := plain_split hp
  obtain ⟨k, x, m⟩ := p
  simp only at hc hk
  rcases hc with ⟨rfl, _⟩ | ⟨rfl, _⟩ | ⟨rfl, _⟩ | ⟨rfl, _⟩ | ⟨rfl, _⟩
  · exact absurd rfl hk
  · exact ⟨_, _, shown_2, by decide⟩
  · by_cases h : m = []
    · subst h; exact ⟨_, _, shown_3, by decide⟩
    · exact ⟨_, _, shown_3m h, by decide⟩
  · by_cases h : m = []
    · subst h; exact ⟨_, _, shown_4, by decide⟩
    · exact ⟨_, _, shown_4m h, by decide⟩
  · exact ⟨_, _, shown_5, by decide⟩
theorem braces_len : ∀ w : List Nat, w.length ≤ (bracesN w).length
  | [] => Nat.zero_le _
  | c :: w => by
    rw [braces_cons, List.length_append, List.length_cons]
    have := braces_len w
    split <;> simp <;> omega
theorem rightG_cons {w : Bool} {i : Nat} {p : Pc} {r : List Pc} (h : (rightG w i (p :: r)).2 = 0) : plainP p = true ∧ ¬ (w = true ∧ p.kind = 1) ∧ (rightG (decide (p.kind = 1)) (i + 1) r).2 = 0 := by
  rw [rightG] at h
  split at h
  · rename_i hc
    exact ⟨hc.1, hc.2, h⟩
  · cases h
theorem row_at {t : List Nat} (ht : Bytes t) : ∀ (ps : List Pc) (i f k : Nat) (o : List Pc) (w : Bool), t.drop i = ps.flatMap shownP → i ≤ t.length → o.length + ps.length ≤ 64 → (rightG w k ps).2 = 0 → (∀ p ∈ ps, Bytes p.text ∧ Bytes p.mark) → (ps.flatMap shownP).length ≤ f → rowS t f i o = (o ++ ps, 0, 0)
  | [], i, f, k, o, w, h, hi, _, _, _, _ => by
    have hl : t.length ≤ i := by
      have := congrArg List.length h
      rw [List.length_drop] at this
      simp at this
      omega
    rw [row_end rfl hl, List.append_nil]
  | p :: r, i, f, k, o, w, h, hi, h64, hr, hb, hf => by
    obtain ⟨hp, hnw, hr2⟩ := rightG_cons hr
    obtain ⟨hbx, hbm⟩ := hb p (by simp)
    have h' : t.drop i = shownP p ++ r.flatMap shownP := by rw [h]; rfl
    have hf' : (shownP p).length + (r.flatMap shownP).length ≤ f := by rw [← List.length_append]; exact hf
    rw [List.length_cons] at h64
    have hcont := fun j f' (hj : j = i + (shownP p).length) (hjl : j ≤ t.length) (hf2 : (r.flatMap shownP).length ≤ f') =>
      row_at ht r j f' (k + 1) (o ++ [p]) (decide (p.kind = 1)) (by rw [hj]; exact drop_more h') hjl (by rw [List.length_append, List.length_singleton]; omega) hr2 (fun q hq => hb q (List.mem_cons_of_mem _ hq)) hf2
    by_cases hk : p.kind = 1
    · obtain ⟨_, hc⟩ := plain_split hp
      obtain ⟨pk, x, m⟩ := p
      simp only at hk hc hbx
      subst hk
      have hx : x ≠ [] ∧ m = [] := by
        rcases hc with h | h | h | h | h
        · exact h.2
        all_goals (have := h.1; omega)
      obtain ⟨hx0, rfl⟩ := hx
      rw [shown_1] at h' hf' hcont
      have hpos : 0 < x.length := List.length_pos_iff.2 hx0
      have hbl := braces_len x
      have hbne : bracesN x ≠ [] := fun e => by rw [e, List.length_nil] at hbl; omega
      have hlen := drop_len h' hbne
      have hwe : WordEnd (r.flatMap shownP) := by
        cases r with
        | nil => exact .inl rfl
        | cons q s =>
          obtain ⟨hq, hqn, _⟩ := rightG_cons hr2
          obtain ⟨c, z, hs, hcn⟩ := shown_head hq (fun e => hqn ⟨by simp, e⟩)
          exact .inr ⟨c, z ++ s.flatMap shownP, by rw [List.flatMap_cons, hs]; rfl, hcn⟩
      have hw := word_at hwe x i t.length [] h' (by omega)
      rw [List.nil_append] at hw
      have hib : insB t i = false := by
        cases x with
        | nil => exact absurd rfl hx0
        | cons c z =>
          rw [braces_cons] at h'
          by_cases hc2 : c = 123 ∨ c = 125
          · rw [if_pos hc2] at h'
            have h0 := at_drop h' 0
            have h1 := at_drop h' 1
            simp at h0 h1
            unfold insB
            rw [h0, h1]
            rcases hc2 with rfl | rfl <;> rfl
          · rw [if_neg hc2] at h'
            have h0 := at_drop h' 0
            simp at h0
            unfold insB
            rw [h0]
            have : ¬ c = 123 := fun e => hc2 (.inl e)
            simp [this]
      rw [← row_word rfl (by omega) (by omega) (by omega) hib hw, hcont _ (f - 1) rfl (by omega) (by omega), List.append_assoc]
      rfl
    · obtain ⟨hib, j, hins, hj, hjl⟩ := ins_at ht hp hk hbx hbm h'
      have hjt := (List.getElem?_eq_some_iff.1 hj).1
      obtain ⟨c, z, hs, _⟩ := shown_head hp hk
      have hpos : 2 ≤ (shownP p).length := by rw [hs]; simp
      rw [← row_ins rfl (by omega) (by omega) (by omega) hib hins hj, hcont _ (f - 1) hjl (by omega) (by omega), List.append_assoc]
      rfl
theorem print_parse {ps : List Pc} {t : List Nat} (hb : ∀ p ∈ ps, Bytes p.text ∧ Bytes p.mark) (h : printP ps = (t, 0)) : rowN t = (ps, 0, 0) ∧ Bytes t ∧ t.length ≤ 4096 := by
  unfold printP at h
  split at h
  · rename_i hr
    injection h with _ h2
    exact absurd h2 hr
  · rename_i hr
    split at h
    · cases h
    · rename_i hl
      injection h with h1 _
      have hr0 : (rightP ps).2 = 0 := by omega
      have hbt : Bytes t := by
        rw [← h1]
        intro z hz
        obtain ⟨p, hp, hz⟩ := List.mem_flatMap.1 hz
        exact shown_bytes (hb p hp).1 (hb p hp).2 z hz
      have hl4 : t.length ≤ 4096 := by rw [← h1]; omega
      refine ⟨?_, hbt, hl4⟩
      have h64 := (right_plain hr0).1
      unfold rightP at hr0
      rw [if_neg (by omega)] at hr0
      unfold rowN
      rw [if_neg (by omega)]
      have := row_at hbt ps 0 t.length 0 [] false (by rw [List.drop_zero, h1]) (Nat.zero_le _) (by simpa using h64) hr0 hb (by rw [h1]; exact Nat.le_refl _)
      rw [List.nil_append] at this
      exact this
end Go.Proofs.YtpkggobhhieeoaaDoor
namespace Go.Proofs.YtpkggobhhieeoaaDoor
open Go.RowKit
theorem cut_split {s : List Nat} {b k : Nat} (h : b ≤ k) : s.drop b = cutN s b k ++ s.drop k := by
  unfold cutN
  rw [List.drop_take]
  have : s.drop k = (s.drop b).drop (k - b) := by rw [List.drop_drop]; congr 1; omega
  rw [this, List.take_append_drop]
theorem drop_cons {s : List Nat} {i c : Nat} (h : s[i]? = some c) : s.drop i = c :: s.drop (i + 1) := by
  obtain ⟨h1, h2⟩ := List.getElem?_eq_some_iff.1 h
  rw [List.drop_eq_getElem_cons h1, h2]
theorem nameTo_right {s : List Nat} {b : Nat} : ∀ (f n : Nat), (n = b ∨ rightN (cutN s b n) = true) → (nameTo s b f n = b ∨ rightN (cutN s b (nameTo s b f n)) = true)
  | 0, n, h => h
  | f + 1, n, h => by
    rw [nameTo]
    split
    · rename_i hc
      exact nameTo_right f (n + 1) (.inr hc.2)
    · exact h
theorem name_right {s : List Nat} {b k : Nat} {t : List Nat} (hb : b ≤ s.length) (h : nameS s b = .inl (t, k)) : rightN t = true ∧ s.drop b = t ++ s.drop k ∧ b < k ∧ k ≤ s.length ∧ t.length = k - b := by
  obtain ⟨h1, h2, h3, h4⟩ := name_some hb h
  have h5 := nameTo_right (s := s) (b := b) s.length b (.inl rfl)
  rw [show nameTo s b s.length b = k from h2.symm] at h5
  refine ⟨?_, ?_, h3, h4, ?_⟩
  · rw [h1]; exact h5.resolve_left (by omega)
  · rw [h1]; exact cut_split (by omega)
  · rw [h1, cut_len h4]
theorem mark_right {s : List Nat} {b k : Nat} {m : List Nat} (hs : Bytes s) (h : markS s b = .inl (m, k)) : s.drop b = quoteN m ++ s.drop k ∧ m ≠ [] ∧ Bytes m ∧ b < k ∧ k ≤ s.length ∧ m.length + b + 2 ≤ k := by
  obtain ⟨h1, h2, h3, h4, h5, h6, _⟩ := mark_some hs h
  have hd := drop_cons h1
  have hq := quote_tok hs hd.symm
  rw [h2] at hq
  have hl := unq_len20 _ _ _ _ _ _ hs h2
  rw [List.length_nil] at hl
  cases hqr : qR (s.drop (b + 1)) with
  | mk a n =>
    rw [hqr] at hq
    cases a with
    | none => simp at hq
    | some s1 =>
      simp only at hq
      injection hq with e1 e2
      injection e2 with e2 _
      subst e1
      obtain ⟨_, hn, _, p, hp1, hp2⟩ := qR_bound _ _ zL (bytes_drop hs _) _ _ hqr
      refine ⟨?_, h3, h4, h5, h6, by omega⟩
      have h7 : s.drop (b + 1) = (s.drop (b + 1)).take n ++ (s.drop (b + 1)).drop n := (List.take_append_drop _ _).symm
      rw [hd, h7, hp1, hp2, List.drop_drop, e2]
      unfold quoteN
      simp
theorem insert_right {s : List Nat} (hs : Bytes s) (h4 : s.length ≤ 4096) {i k : Nat} {p : Pc} (hi : insB s i = true) (h : insertS s (i + 1) = .inl (p, k)) (hk : s[k]? = some 125) :
    s.drop i = shownP p ++ s.drop (k + 1) ∧ plainP p = true ∧ p.kind ≠ 1 := by
  have h0 : s[i]? = some 123 := by unfold insB at hi; rw [Bool.and_eq_true] at hi; exact of_decide_eq_true hi.1
  have hk1 := drop_cons hk
  have hd0 := drop_cons h0
  have lt : ∀ {i c : Nat}, s[i]? = some c → i + 1 ≤ s.length := fun h => (List.getElem?_eq_some_iff.1 h).1
  have pl : ∀ (kd : Int) (x m : List Nat), x.length + m.length ≤ 4096 → kindP ⟨kd, x, m⟩ = true → plainP ⟨kd, x, m⟩ = true := fun kd x m h1 h2 => by
    unfold plainP
    rw [h2, Bool.and_true]
    exact decide_eq_true h1
  have hkt := lt hk
  unfold insertS at h
  by_cases c1 : s[i + 1]? = some 46
  · rw [if_pos c1] at h
    cases hn : nameS s (i + 1 + 1) with
    | inr j => rw [hn] at h; cases h
    | inl x =>
      obtain ⟨t, j⟩ := x
      rw [hn] at h
      injection h with h
      injection h with e1 e2
      subst e1 e2
      obtain ⟨a1, a2, a3, a4, a5⟩ := name_right (lt c1) hn
      refine ⟨?_, pl _ _ _ (by rw [List.length_nil]; omega) ?_, by simp⟩
      · rw [hd0, drop_cons c1, a2, hk1, shown_2]; simp
      · show (rightN t && decide (([] : List Nat) = [])) = true
        rw [a1]; rfl
  rw [if_neg c1] at h
  by_cases c2 : s[i + 1]? = some 35
  · rw [if_pos c2] at h
    cases hn : nameS s (i + 1 + 1) with
    | inr j => rw [hn] at h; cases h
    | inl x =>
      obtain ⟨t, j⟩ := x
      rw [hn] at h
      obtain ⟨a1, a2, a3, a4, a5⟩ := name_right (lt c2) hn
      simp only [thenS] at h
      split at h
      · rename_i hd
        cases hm : markS s (j + 1) with
        | inr j => rw [hm] at h; cases h
        | inl y =>
          obtain ⟨m, q⟩ := y
          rw [hm] at h
          injection h with h
          injection h with e1 e2
          subst e1 e2
          obtain ⟨b1, b2, b3, b4, b5, b6⟩ := mark_right hs hm
          refine ⟨?_, pl _ _ _ (by omega) ?_, by simp⟩
          · rw [hd0, drop_cons c2, a2, drop_cons hd, b1, hk1, shown_3m b2]; simp
          · exact a1
      · injection h with h
        injection h with e1 e2
        subst e1 e2
        refine ⟨?_, pl _ _ _ (by rw [List.length_nil]; omega) ?_, by simp⟩
        · rw [hd0, drop_cons c2, a2, hk1, shown_3]; simp
        · exact a1
  rw [if_neg c2] at h
  by_cases c3 : s[i + 1]? = some 45
  · rw [if_pos c3] at h
    split at h
    · rename_i he
      cases hn : nameS s (i + 1 + 2) with
      | inr j => rw [hn] at h; cases h
      | inl x =>
        obtain ⟨t, j⟩ := x
        rw [hn] at h
        obtain ⟨a1, a2, a3, a4, a5⟩ := name_right (lt he) hn
        simp only [thenS] at h
        split at h
        · rename_i hd
          cases hm : nameS s (j + 1) with
          | inr j => rw [hm] at h; cases h
          | inl y =>
            obtain ⟨m, q⟩ := y
            rw [hm] at h
            injection h with h
            injection h with e1 e2
            subst e1 e2
            obtain ⟨b1, b2, b3, b4, b5⟩ := name_right (lt hd) hm
            have hm0 := right_ne b1
            refine ⟨?_, pl _ _ _ (by omega) ?_, by simp⟩
            · rw [hd0, drop_cons c3, drop_cons he, show i + 1 + 1 + 1 = i + 1 + 2 by omega, a2, drop_cons hd, b2, hk1, shown_4m hm0]; simp
            · show (rightN t && (decide (m = []) || rightN m)) = true
              rw [a1, b1]; simp
        · injection h with h
          injection h with e1 e2
          subst e1 e2
          refine ⟨?_, pl _ _ _ (by rw [List.length_nil]; omega) ?_, by simp⟩
          · rw [hd0, drop_cons c3, drop_cons he, show i + 1 + 1 + 1 = i + 1 + 2 by omega, a2, hk1, shown_4]; simp
          · show (rightN t && (decide (([] : List Nat) = []) || rightN [])) = true
            rw [a1]; rfl
    · cases h
  rw [if_neg c3] at h
  by_cases c4 : s[i + 1]? = some 61
  · rw [if_pos c4] at h
    cases hn : exprS s (i + 1 + 1) with
    | inr j => rw [hn] at h; cases h
    | inl x =>
      obtain ⟨t, j⟩ := x
      rw [hn] at h
      injection h with h
      injection h with e1 e2
      subst e1 e2
      obtain ⟨a1, a2, a3, a4, a5⟩ := expr_some hs (lt c4) hn
      have a6 : s.drop (i + 1 + 1) = t ++ s.drop j := by rw [a1]; exact cut_split a3
      have a7 : t.length ≤ 4096 := by rw [a1, cut_len a4]; omega
      refine ⟨?_, pl _ _ _ (by rw [List.length_nil]; omega) ?_, by simp⟩
      · rw [hd0, drop_cons c4, a6, hk1, shown_5]; simp
      · show (decide ((parseN t).2.2 = 0) && decide (([] : List Nat) = [])) = true
        rw [decide_eq_true a5]; rfl
  · rw [if_neg c4] at h; cases h
theorem word_right {s : List Nat} : ∀ (f i : Nat) (o t : List Nat) (k : Nat), wordS s f i o = .inl (t, k) → s.length - i ≤ f → ∃ w, t = o ++ w ∧ s.drop i = bracesN w ++ s.drop k ∧ (s.length ≤ k ∨ insB s k = true)
  | 0, i, o, t, k, h, hf => by
    injection h with h
    injection h with e1 e2
    subst e1 e2
    exact ⟨[], by simp, rfl, .inl (by omega)⟩
  | f + 1, i, o, t, k, h, hf => by
    rw [wordS] at h
    cases hc : s[i]? with
    | none =>
      rw [hc] at h
      injection h with h
      injection h with e1 e2
      subst e1 e2
      exact ⟨[], by simp, rfl, .inl (List.getElem?_eq_none_iff.1 hc)⟩
    | some c =>
      rw [hc] at h
      have hlt := (List.getElem?_eq_some_iff.1 hc).1
      simp only at h
      split at h
      · rename_i h1
        injection h with h
        injection h with e1 e2
        subst e1 e2
        refine ⟨[], by simp, rfl, .inr ?_⟩
        unfold insB
        rw [hc, h1.1]
        simpa using h1.2
      · split at h
        · rename_i h2
          split at h
          · rename_i h3
            obtain ⟨w, e1, e2, e3⟩ := word_right f (i + 2) (o ++ [c]) t k h (by omega)
            refine ⟨c :: w, by rw [e1]; simp, ?_, e3⟩
            rw [drop_cons hc, drop_cons h3, braces_cons, if_pos h2, e2]
            rfl
          · cases h
        · rename_i h2
          obtain ⟨w, e1, e2, e3⟩ := word_right f (i + 1) (o ++ [c]) t k h (by omega)
          refine ⟨c :: w, by rw [e1]; simp, ?_, e3⟩
          rw [drop_cons hc, braces_cons, if_neg h2, e2]
          rfl
theorem unq_err_in : ∀ (f i : Nat) (l o s : List Nat) (k e : Nat), Bytes l → i ≤ l.length → unq l f i o = (s, k, e) → e ≠ 0 → i ≤ k ∧ k ≤ l.length
  | 0, i, l, o, s, k, e, _, hi, h, _ => by
    injection h with _ h
    injection h with h _
    subst h
    exact ⟨Nat.le_refl _, hi⟩
  | f + 1, i, l, o, s, k, e, hl, hi, h, he => by
    rw [unq] at h
    split at h
    · injection h with _ h
      injection h with _ h
      exact absurd h.symm he
    · rename_i h34
      split at h
      · rename_i c n m hone
        obtain ⟨h1, h2⟩ := one_len (bytes_drop hl i) (by rw [List.head?_drop]; exact h34) hone
        rw [List.length_drop] at h2
        obtain ⟨h3, h4⟩ := unq_err_in f (i + n) l _ s k e hl (by omega) h he
        exact ⟨by omega, h4⟩
      · rename_i far hone
        injection h with _ h
        injection h with h _
        have := one_far_le (bytes_drop hl i) hone
        rw [List.length_drop] at this
        omega
theorem insert_no {s : List Nat} (hs : Bytes s) (h4 : s.length ≤ 4096) {b k : Nat} (hb : b ≤ s.length) (h : insertS s b = .inr k) : b ≤ k ∧ k ≤ s.length := by
  have lt : ∀ {i c : Nat}, s[i]? = some c → i + 1 ≤ s.length := fun h => (List.getElem?_eq_some_iff.1 h).1
  unfold insertS at h
  by_cases c1 : s[b]? = some 46
  · rw [if_pos c1] at h
    have := lt c1
    cases hn : nameS s (b + 1) with
    | inl x => rw [hn] at h; cases h
    | inr j =>
      rw [hn] at h
      injection h with h
      have := (name_none hn).1
      omega
  rw [if_neg c1] at h
  by_cases c2 : s[b]? = some 35
  · rw [if_pos c2] at h
    have := lt c2
    cases hn : nameS s (b + 1) with
    | inr j =>
      rw [hn] at h
      injection h with h
      have := (name_none hn).1
      omega
    | inl x =>
      obtain ⟨t, j⟩ := x
      rw [hn] at h
      obtain ⟨_, _, a3, a4⟩ := name_some (lt c2) hn
      simp only [thenS] at h
      split at h
      · rename_i hd
        have hlt := lt hd
        cases hm : markS s (j + 1) with
        | inl y => rw [hm] at h; cases h
        | inr q =>
          rw [hm] at h
          injection h with h
          subst h
          unfold markS at hm
          split at hm
          · injection hm with hm; omega
          · rename_i h34
            have h34 : s[j + 1]? = some 34 := by simpa using h34
            have hlt2 := lt h34
            split at hm
            · rename_i he
              injection hm with hm
              have := unq_err_in (s.length + 1) (j + 1 + 1) s [] (quoteAt s (j + 1)).1 (quoteAt s (j + 1)).2.1 (quoteAt s (j + 1)).2.2 hs hlt2 rfl he
              omega
            · split at hm
              · injection hm with hm; omega
              · cases hm
      · cases h
  rw [if_neg c2] at h
  by_cases c3 : s[b]? = some 45
  · rw [if_pos c3] at h
    have := lt c3
    split at h
    · rename_i he
      have := lt he
      cases hn : nameS s (b + 2) with
      | inr j =>
        rw [hn] at h
        injection h with h
        have := (name_none hn).1
        omega
      | inl x =>
        obtain ⟨t, j⟩ := x
        rw [hn] at h
        obtain ⟨_, _, a3, a4⟩ := name_some (lt he) hn
        simp only [thenS] at h
        split at h
        · rename_i hd
          have := lt hd
          cases hm : nameS s (j + 1) with
          | inl y => rw [hm] at h; cases h
          | inr q =>
            rw [hm] at h
            injection h with h
            have := (name_none hm).1
            omega
        · cases h
    · injection h with h; omega
  rw [if_neg c3] at h
  by_cases c4 : s[b]? = some 61
  · rw [if_pos c4] at h
    have := lt c4
    cases hn : exprS s (b + 1) with
    | inl x => rw [hn] at h; cases h
    | inr j =>
      rw [hn] at h
      injection h with h
      subst h
      unfold exprS at hn
      split at hn
      · injection hn with hn
        have h1 := end_in hs s.length (b + 1) this
        rw [show endTo s s.length (b + 1) = endE s (b + 1) from rfl] at h1
        have h2 := parse_in (cut_bytes hs (b + 1) (endE s (b + 1))) (by rw [cut_len h1.2]; omega)
        rw [cut_len h1.2] at h2
        omega
      · cases hn
  · rw [if_neg c4] at h; injection h with h; omega
theorem row_right {s : List Nat} (hs : Bytes s) (h4 : s.length ≤ 4096) : ∀ (f i : Nat) (o m : List Pc) (a e : Nat), rowS s f i o = (m, a, e) → i ≤ s.length → s.length - i ≤ f → o.length ≤ 64 →
    (e = 0 → a = 0 ∧ m.length ≤ 64 ∧ ∃ ps, m = o ++ ps ∧ s.drop i = ps.flatMap shownP ∧ ∀ (w : Bool) (k : Nat), (w = true → s.length ≤ i ∨ insB s i = true) → (rightG w k ps).2 = 0) ∧ (e ≠ 0 → m = [] ∧ i ≤ a ∧ a ≤ s.length ∧ (e = 4 ∨ e = 200))
  | 0, i, o, m, a, e, h, hi, hf, ho => by
    injection h with h1 h2
    injection h2 with h2 h3
    subst h1 h2 h3
    refine ⟨fun _ => ⟨rfl, ho, [], by simp, ?_, fun _ _ _ => rfl⟩, fun h => absurd rfl h⟩
    rw [List.drop_eq_nil_of_le (by omega)]
    rfl
  | f + 1, i, o, m, a, e, h, hi, hf, ho => by
    by_cases hl : s.length ≤ i
    · have := row_end h hl
      injection this with h1 h2
      injection h2 with h2 h3
      subst h1 h2 h3
      refine ⟨fun _ => ⟨rfl, ho, [], by simp, ?_, fun _ _ _ => rfl⟩, fun h => absurd rfl h⟩
      rw [List.drop_eq_nil_of_le hl]
      rfl
    · by_cases h64 : o.length = 64
      · have := row_full h (by omega) (by omega) h64
        injection this with h1 h2
        injection h2 with h2 h3
        subst h1 h2 h3
        exact ⟨fun h => absurd h (by decide), fun _ => ⟨rfl, Nat.le_refl _, hi, .inl rfl⟩⟩
      · cases hb : insB s i with
        | true =>
          cases hp : insertS s (i + 1) with
          | inr k =>
            have := row_ins_bad h (by omega) (by omega) h64 hb hp
            injection this with h1 h2
            injection h2 with h2 h3
            subst h1 h2 h3
            have := insert_no hs h4 (by omega) hp
            exact ⟨fun h => absurd h (by decide), fun _ => ⟨rfl, by omega, this.2, .inr rfl⟩⟩
          | inl x =>
            obtain ⟨p, k⟩ := x
            have hk2 := insert_some hs h4 (by omega) hp
            by_cases hk : s[k]? = some 125
            · have h2 := row_ins h (by omega) (by omega) h64 hb hp hk
              have hkl := (List.getElem?_eq_some_iff.1 hk).1
              obtain ⟨r1, r2, r3⟩ := insert_right hs h4 hb hp hk
              obtain ⟨g1, g2⟩ := row_right hs h4 f (k + 1) (o ++ [p]) m a e h2 (by omega) (by omega) (by rw [List.length_append, List.length_singleton]; omega)
              refine ⟨fun he => ?_, fun he => ?_⟩
              · obtain ⟨b1, b2, ps, b3, b4, b5⟩ := g1 he
                refine ⟨b1, b2, p :: ps, by rw [b3]; simp, by rw [r1, b4]; rfl, fun w k' _ => ?_⟩
                rw [rightG, if_pos ⟨r2, fun hw => r3 hw.2⟩]
                exact b5 _ _ (fun hw => absurd (of_decide_eq_true hw) r3)
              · obtain ⟨b1, b2, b3, b4⟩ := g2 he
                exact ⟨b1, by omega, b3, b4⟩
            · have := row_ins_no h (by omega) (by omega) h64 hb hp hk
              injection this with h1 h2
              injection h2 with h2 h3
              subst h1 h2 h3
              exact ⟨fun h => absurd h (by decide), fun _ => ⟨rfl, by omega, hk2.2.2, .inr rfl⟩⟩
        | false =>
          have hwi := word_in hs s.length i [] hi bytes_nil
          cases hp : wordS s s.length i [] with
          | inr k =>
            rw [hp] at hwi
            have := row_word_no h (by omega) (by omega) h64 hb hp
            injection this with h1 h2
            injection h2 with h2 h3
            subst h1 h2 h3
            exact ⟨fun h => absurd h (by decide), fun _ => ⟨rfl, hwi.1, hwi.2, .inr rfl⟩⟩
          | inl x =>
            obtain ⟨t, k⟩ := x
            rw [hp] at hwi
            obtain ⟨w1, w2, w3, w4⟩ := hwi
            have hon := word_on hs (by omega) hb hp
            have h2 := row_word h (by omega) (by omega) h64 hb hp
            obtain ⟨w, e1, e2, e3⟩ := word_right _ _ _ _ _ hp (by omega)
            rw [List.nil_append] at e1
            subst e1
            obtain ⟨g1, g2⟩ := row_right hs h4 f k (o ++ [(⟨1, t, []⟩ : Pc)]) m a e h2 w3 (by omega) (by rw [List.length_append, List.length_singleton]; omega)
            refine ⟨fun he => ?_, fun he => ?_⟩
            · obtain ⟨b1, b2, ps, b3, b4, b5⟩ := g1 he
              refine ⟨b1, b2, ⟨1, t, []⟩ :: ps, by rw [b3]; simp, by rw [e2, b4]; rfl, fun wb k' hw => ?_⟩
              have hne : t ≠ [] := fun e => by
                rw [e] at e2
                have h5 : s.drop i = s.drop k := e2
                have := congrArg List.length h5
                rw [List.length_drop, List.length_drop] at this
                omega
              have hpl : plainP ⟨1, t, []⟩ = true := by
                have h6 : kindP ⟨1, t, []⟩ = true := by
                  show (decide (t ≠ []) && decide (([] : List Nat) = [])) = true
                  simp [hne]
                have h7 : t.length + ([] : List Nat).length ≤ 4096 := by rw [List.length_nil] at w4 ⊢; omega
                unfold plainP
                rw [h6, Bool.and_true]
                exact decide_eq_true h7
              have hnw : ¬ (wb = true ∧ (⟨1, t, []⟩ : Pc).kind = 1) := fun hw2 => by
                rcases hw hw2.1 with h5 | h5
                · omega
                · simp [hb] at h5
              rw [rightG, if_pos ⟨hpl, hnw⟩]
              exact b5 _ _ (fun _ => e3)
            · obtain ⟨b1, b2, b3, b4⟩ := g2 he
              exact ⟨b1, by omega, b3, b4⟩
theorem parse_print {s : List Nat} (hs : Bytes s) {m : List Pc} {a e : Nat} (h : rowN s = (m, a, e)) :
    (e = 0 → a = 0 ∧ (rightP m).2 = 0 ∧ printP m = (s, 0) ∧ m.length ≤ 64) ∧ (e ≠ 0 → m = [] ∧ a ≤ s.length ∧ (e = 4 ∨ e = 200 ∨ (e = 3 ∧ a = 0 ∧ 4096 < s.length))) := by
  unfold rowN at h
  split at h
  · injection h with h1 h2
    injection h2 with h2 h3
    subst h1 h2 h3
    rename_i hb
    exact ⟨fun h => absurd h (by decide), fun _ => ⟨rfl, Nat.zero_le _, .inr (.inr ⟨rfl, rfl, hb⟩)⟩⟩
  · obtain ⟨g1, g2⟩ := row_right hs (by omega) s.length 0 [] m a e h (Nat.zero_le _) (by omega) (by simp)
    refine ⟨fun he => ?_, fun he => ?_⟩
    · obtain ⟨b1, b2, ps, b3, b4, b5⟩ := g1 he
      rw [List.nil_append] at b3
      subst b3
      rw [List.drop_zero] at b4
      have hr : (rightP m).2 = 0 := by
        unfold rightP
        rw [if_neg (by omega)]
        exact b5 false 0 (fun h => by cases h)
      refine ⟨b1, hr, ?_, b2⟩
      unfold printP
      rw [if_neg (by simpa using hr), if_neg (by rw [← b4]; omega), ← b4]
    · obtain ⟨b1, _, b3, b4⟩ := g2 he
      exact ⟨b1, b3, by rcases b4 with h | h <;> simp [h]⟩
end Go.Proofs.YtpkggobhhieeoaaDoor
namespace Go.Proofs.YtpkggobhhieeoaaDoor
open Go.RowKit
def awA : List Pc := [⟨1, [108, 101, 116, 32], []⟩, ⟨2, [110, 97, 109, 101], []⟩, ⟨1, [32, 61, 32], []⟩, ⟨3, [118, 97, 108, 117, 101], []⟩, ⟨1, [59, 32, 123], []⟩]
def awB : List Pc := [⟨3, [97, 114, 103, 115], [44, 32]⟩, ⟨4, [116, 111], [110, 97, 109, 101]⟩, ⟨5, [34, 125, 34, 32, 43, 32, 115, 101, 108, 102, 46, 97], []⟩]
theorem aw_1 : rowN [108, 101, 116, 32, 123, 46, 110, 97, 109, 101, 125, 32, 61, 32, 123, 35, 118, 97, 108, 117, 101, 125, 59, 32, 123, 123] = (awA, 0, 0) := by decide +kernel
theorem aw_2 : rowN [123, 35, 97, 114, 103, 115, 32, 34, 44, 32, 34, 125, 123, 45, 62, 116, 111, 46, 110, 97, 109, 101, 125, 123, 61, 34, 125, 34, 32, 43, 32, 115, 101, 108, 102, 46, 97, 125] = (awB, 0, 0) := by decide +kernel
theorem aw_3 : rowN [123, 61, 49, 32, 50, 125] = ([], 4, 200) := by decide +kernel
theorem aw_4 : rowN [97, 125, 98] = ([], 2, 200) := by decide +kernel
theorem aw_5 : printP [⟨1, [97], []⟩, ⟨1, [98], []⟩] = ([], 200) := by decide +kernel
theorem SlR.new2 {α : Type} {w : World} {size g : Nat} {e : TypeId} {R : List Value → α → Prop} {x x' : List Value} {y y' : α} (hg : g = w.heap.size) (hs : 0 < size) (hl : x.length = size) (hl' : x'.length = size) (hR : R x y) (hR' : R x' y') : SlR (w.alloc (.cells (x ++ x').toArray e)) (w.heap.size + 1) size R (.slice (some ⟨g, 0, none⟩) 2 2) [y, y'] := by
  subst hg
  have h2 : (x ++ x').length = 2 * size := by rw [List.length_append, hl, hl']; omega
  have h : Own1 (w.alloc (.cells (x ++ x').toArray e)) 0 e size R (.slice (some ⟨w.heap.size, 0, none⟩) 2 2) [y, y'] := ⟨x ++ x', ⟨h2, .inr ⟨w.heap.size, 2, (x ++ x').toArray, rfl, Nat.zero_le _, heap_alloc_new w _, Nat.le_refl _, by decide, h2, List.take_of_length_le (Nat.le_of_eq h2)⟩⟩, (FlatR.one hl hR).app (FlatR.one hl' hR')⟩
  have h := h.read hs
  rwa [World.size_alloc] at h
theorem aw_read1 {W : World} {B : Nat} {a : Option Addr} {c : Nat} (h : SlR W B 3 Pc.Is (.slice a 5 c) awA) : ∃ b off, a = some ⟨b, off, none⟩ ∧ W.cell? ⟨b, off + 3, none⟩ = some (.int .i64 2) ∧ W.cell? ⟨b, off + 4, none⟩ = some (.string ⟨#[110, 97, 109, 101]⟩) ∧ W.cell? ⟨b, off + 5, none⟩ = some (.string ⟨#[]⟩) ∧ W.cell? ⟨b, off + 12, none⟩ = some (.int .i64 1) ∧ W.cell? ⟨b, off + 13, none⟩ = some (.string ⟨#[59, 32, 123]⟩) ∧ W.cell? ⟨b, off + 14, none⟩ = some (.string ⟨#[]⟩) := by
  obtain ⟨b, off, x, rfl, hb, hx, ⟨rfl, _⟩, hc⟩ := h.at_ (show awA[0]? = some (⟨1, [108, 101, 116, 32], []⟩ : Pc) from rfl)
  obtain ⟨b1, off1, x1, ha1, _, _, ⟨rfl, _⟩, q1⟩ := h.at_ (show awA[1]? = some (⟨2, [110, 97, 109, 101], []⟩ : Pc) from rfl)
  injection ha1 with ha1; injection ha1 with e1 e2; subst e1 e2
  obtain ⟨b4, off4, x4, ha4, _, _, ⟨rfl, _⟩, q4⟩ := h.at_ (show awA[4]? = some (⟨1, [59, 32, 123], []⟩ : Pc) from rfl)
  injection ha4 with ha4; injection ha4 with e1 e2; subst e1 e2
  exact ⟨b, off, rfl, q1 0 _ rfl, q1 1 _ rfl, q1 2 _ rfl, q4 0 _ rfl, q4 1 _ rfl, q4 2 _ rfl⟩
theorem aw_read2 {W : World} {B : Nat} {a : Option Addr} {c : Nat} (h : SlR W B 3 Pc.Is (.slice a 3 c) awB) : ∃ b off, a = some ⟨b, off, none⟩ ∧ W.cell? ⟨b, off + 2, none⟩ = some (.string ⟨#[44, 32]⟩) ∧ W.cell? ⟨b, off + 5, none⟩ = some (.string ⟨#[110, 97, 109, 101]⟩) ∧ W.cell? ⟨b, off + 7, none⟩ = some (.string ⟨#[34, 125, 34, 32, 43, 32, 115, 101, 108, 102, 46, 97]⟩) := by
  obtain ⟨b, off, x, rfl, hb, hx, ⟨rfl, _⟩, hc⟩ := h.at_ (show awB[0]? = some (⟨3, [97, 114, 103, 115], [44, 32]⟩ : Pc) from rfl)
  have q0 := hc
  obtain ⟨b1, off1, x1, ha1, _, _, ⟨rfl, _⟩, q1⟩ := h.at_ (show awB[1]? = some (⟨4, [116, 111], [110, 97, 109, 101]⟩ : Pc) from rfl)
  injection ha1 with ha1; injection ha1 with e1 e2; subst e1 e2
  obtain ⟨b2, off2, x2, ha2, _, _, ⟨rfl, _⟩, q2⟩ := h.at_ (show awB[2]? = some (⟨5, [34, 125, 34, 32, 43, 32, 115, 101, 108, 102, 46, 97], []⟩ : Pc) from rfl)
  injection ha2 with ha2; injection ha2 with e1 e2; subst e1 e2
  exact ⟨b, off, rfl, q0 2 _ rfl, q1 2 _ rfl, q2 1 _ rfl⟩
theorem aw_lt : ∀ c ∈ ([⟨1, ⟨#[97]⟩, ⟨#[]⟩⟩, ⟨1, ⟨#[98]⟩, ⟨#[]⟩⟩] : List Cell), c.lt47 := by unfold Cell.lt47; decide
theorem awake_any (w : World) (hm : Marks w) (hg : Signs w) : Calls Tryd.prog 10 #[] w fun e w' => e = .returned (.bool true) ∧ Below w.heap.size w w' := by
  have h4w : 4 < w.heap.size := by
    obtain ⟨t, fr, h⟩ := signs_block hg
    rcases Nat.lt_or_ge 4 w.heap.size with h0 | h0
    · exact h0
    · rw [Array.getElem?_eq_none h0] at h; cases h
  have H1 := zH (fun W (hW : Below w.heap.size w W) => (show Calls Tryd.prog 7 #[.string ⟨#[108, 101, 116, 32, 123, 46, 110, 97, 109, 101, 125, 32, 61, 32, 123, 35, 118, 97, 108, 117, 101, 125, 59, 32, 123, 123]⟩] W (RowIs W (awA, 0, 0)) by
    have h := row_any (⟨#[108, 101, 116, 32, 123, 46, 110, 97, 109, 101, 125, 32, 61, 32, 123, 35, 118, 97, 108, 117, 101, 125, 59, 32, 123, 123]⟩ : ByteArray) (by decide) W (hm.below hW) (hg.of_block (hW.block 4 h4w))
    rw [show bs (⟨#[108, 101, 116, 32, 123, 46, 110, 97, 109, 101, 125, 32, 61, 32, 123, 35, 118, 97, 108, 117, 101, 125, 59, 32, 123, 123]⟩ : ByteArray) = [108, 101, 116, 32, 123, 46, 110, 97, 109, 101, 125, 32, 61, 32, 123, 35, 118, 97, 108, 117, 101, 125, 59, 32, 123, 123] by decide, aw_1] at h
    exact h))
  have H2 := zH (fun W (hW : Below w.heap.size w W) => (show Calls Tryd.prog 7 #[.string ⟨#[123, 35, 97, 114, 103, 115, 32, 34, 44, 32, 34, 125, 123, 45, 62, 116, 111, 46, 110, 97, 109, 101, 125, 123, 61, 34, 125, 34, 32, 43, 32, 115, 101, 108, 102, 46, 97, 125]⟩] W (RowIs W (awB, 0, 0)) by
    have h := row_any (⟨#[123, 35, 97, 114, 103, 115, 32, 34, 44, 32, 34, 125, 123, 45, 62, 116, 111, 46, 110, 97, 109, 101, 125, 123, 61, 34, 125, 34, 32, 43, 32, 115, 101, 108, 102, 46, 97, 125]⟩ : ByteArray) (by decide) W (hm.below hW) (hg.of_block (hW.block 4 h4w))
    rw [show bs (⟨#[123, 35, 97, 114, 103, 115, 32, 34, 44, 32, 34, 125, 123, 45, 62, 116, 111, 46, 110, 97, 109, 101, 125, 123, 61, 34, 125, 34, 32, 43, 32, 115, 101, 108, 102, 46, 97, 125]⟩ : ByteArray) = [123, 35, 97, 114, 103, 115, 32, 34, 44, 32, 34, 125, 123, 45, 62, 116, 111, 46, 110, 97, 109, 101, 125, 123, 61, 34, 125, 34, 32, 43, 32, 115, 101, 108, 102, 46, 97, 125] by decide, aw_2] at h
    exact h))
  have H3 := zH (fun W (hW : Below w.heap.size w W) => (show Calls Tryd.prog 7 #[.string ⟨#[123, 61, 49, 32, 50, 125]⟩] W (RowIs W ([], 4, 200)) by
    have h := row_any (⟨#[123, 61, 49, 32, 50, 125]⟩ : ByteArray) (by decide) W (hm.below hW) (hg.of_block (hW.block 4 h4w))
    rw [show bs (⟨#[123, 61, 49, 32, 50, 125]⟩ : ByteArray) = [123, 61, 49, 32, 50, 125] by decide, aw_3] at h
    exact h))
  have H4 := zH (fun W (hW : Below w.heap.size w W) => (show Calls Tryd.prog 7 #[.string ⟨#[97, 125, 98]⟩] W (RowIs W ([], 2, 200)) by
    have h := row_any (⟨#[97, 125, 98]⟩ : ByteArray) (by decide) W (hm.below hW) (hg.of_block (hW.block 4 h4w))
    rw [show bs (⟨#[97, 125, 98]⟩ : ByteArray) = [97, 125, 98] by decide, aw_4] at h
    exact h))
  have H5 := zH (fun W (hW : Below w.heap.size w W) => (show Calls Tryd.prog 11 #[.slice (some ⟨W.heap.size, 0, none⟩) 2 2] (W.alloc (.cells #[.int .i64 1, .string ⟨#[97]⟩, .string ⟨#[]⟩, .int .i64 1, .string ⟨#[98]⟩, .string ⟨#[]⟩] 30)) fun e w' => e = .returned (.tuple #[.string ⟨#[]⟩, .int .i64 200]) ∧ Below (W.heap.size + 1) (W.alloc (.cells #[.int .i64 1, .string ⟨#[97]⟩, .string ⟨#[]⟩, .int .i64 1, .string ⟨#[98]⟩, .string ⟨#[]⟩] 30)) w' by
    have hs := SlR.new2 (w := W) (g := W.heap.size) (size := 3) (e := 30) (R := Cell.Is) (x := [.int .i64 1, .string ⟨#[97]⟩, .string ⟨#[]⟩]) (x' := [.int .i64 1, .string ⟨#[98]⟩, .string ⟨#[]⟩]) (y := ⟨1, ⟨#[97]⟩, ⟨#[]⟩⟩) (y' := ⟨1, ⟨#[98]⟩, ⟨#[]⟩⟩) rfl (by decide) rfl rfl ⟨rfl, by decide, by decide, by decide⟩ ⟨rfl, by decide, by decide, by decide⟩
    have hB := hW.alloc hW.size (.cells #[.int .i64 1, .string ⟨#[97]⟩, .string ⟨#[]⟩, .int .i64 1, .string ⟨#[98]⟩, .string ⟨#[]⟩] 30)
    have h := print_row (l := [⟨1, ⟨#[97]⟩, ⟨#[]⟩⟩, ⟨1, ⟨#[98]⟩, ⟨#[]⟩⟩]) (v := .slice (some ⟨W.heap.size, 0, none⟩) 2 2) (W.alloc (.cells #[.int .i64 1, .string ⟨#[97]⟩, .string ⟨#[]⟩, .int .i64 1, .string ⟨#[98]⟩, .string ⟨#[]⟩] 30)) (W.alloc (.cells #[.int .i64 1, .string ⟨#[97]⟩, .string ⟨#[]⟩, .int .i64 1, .string ⟨#[98]⟩, .string ⟨#[]⟩] 30)) (by rw [World.size_alloc]; exact hs) aw_lt (hm.below hB) (hg.of_block (hB.block 4 h4w)) zB
    have e : ([⟨1, ⟨#[97]⟩, ⟨#[]⟩⟩, ⟨1, ⟨#[98]⟩, ⟨#[]⟩⟩] : List Cell).map Cell.pc = [⟨1, [97], []⟩, ⟨1, [98], []⟩] := by decide
    rw [e, aw_5, World.size_alloc] at h
    exact h))
  clear hm hg h4w
  have tok1 : True := trivial
  have tok2 : True := trivial
  have tok3 : True := trivial
  go_enter Tryd.func10, Tryd.ntmps10
  go_wp2_with (first
    | (have _t := tok1; clear tok1 _t; go_at_call 7; (with_reducible refine (H1.out _ (Below.refl w.heap.size w)).mono ?_); rintro e w1 ⟨v1, rfl, h1, h2⟩; obtain ⟨a1, c1, hv1⟩ := h1.form; subst hv1; have O1 := zH h1; have B1 := zH ((Below.refl w.heap.size w).trans (h2.mono (Below.refl w.heap.size w).size)); clear h1 h2; show _)
    | (have _t := tok2; clear tok2 _t; go_at_call 7; (with_reducible refine (H2.out _ (B1.out)).mono ?_); rintro e w2 ⟨v2, rfl, h1, h2⟩; obtain ⟨a2, c2, hv2⟩ := h1.form; subst hv2; have O2 := zH h1; have B2 := zH ((B1.out).trans (h2.mono (B1.out).size)); have O12 := zH (O1.out.below h2 zL); clear h1 h2; show _)
    | (have _t := tok3; clear tok3 _t; go_at_call 7; (with_reducible refine (H3.out _ (B2.out)).mono ?_); rintro e w3 ⟨v3, rfl, h1, h2⟩; obtain ⟨a3, c3, hv3⟩ := h1.form; subst hv3; have O3 := zH h1; have B3 := zH ((B2.out).trans (h2.mono (B2.out).size)); have O13 := zH (O12.out.below h2 zL); have O23 := zH (O2.out.below h2 zL); clear h1 h2; show _)
    | (go_at_call 7; (with_reducible refine (H4.out _ (B3.out)).mono ?_); rintro e w4 ⟨v4, rfl, h1, h2⟩; obtain ⟨a4, c4, hv4⟩ := h1.form; subst hv4; have O4 := zH h1; have B4 := zH ((B3.out).trans (h2.mono (B3.out).size)); have O14 := zH (O13.out.below h2 zL); have O24 := zH (O23.out.below h2 zL); clear h1 h2; show _)
    | (go_at_call 11; (refine (H5.out w4 B4.out).mono ?_); rintro e w5 ⟨rfl, h1⟩; have B5 := zH ((B4.out.alloc B4.out.size _).trans (h1.mono (by have := B4.out.size; omega))); have b45 := ((Below.refl w4.heap.size w4).alloc zL _).trans (h1.mono (by omega)); obtain ⟨b1, off1, hb1, y10, y11, y12, y40, y41, y42⟩ := aw_read1 ((O14.out.below b45 zL).read (by decide)); subst hb1; obtain ⟨b2, off2, hb2, z02, z12, z21⟩ := aw_read2 ((O24.out.below b45 zL).read (by decide)); subst hb2; clear h1 b45 O1 O2 O3 O4 O12 O13 O14 O23 O24; show _))
  go_ret
  exact ⟨rfl, B5.out⟩
end Go.Proofs.YtpkggobhhieeoaaDoor
namespace Go.Proofs.YtpkggobhhieeoaaDoor
open Go.RowKit
theorem Cell.pc_cell (c : Cell) : c.pc.cell = c := by
  obtain ⟨k, t, m⟩ := c
  show (⟨k, txt (bs t), txt (bs m)⟩ : Cell) = ⟨k, t, m⟩
  rw [txt_bs, txt_bs]
theorem cells_pc (l : List Cell) : (l.map Cell.pc).map Pc.cell = l := by
  rw [List.map_map]
  conv => rhs; rw [← List.map_id l]
  exact List.map_congr_left fun c _ => c.pc_cell
theorem pcs_bytes (l : List Cell) : ∀ p ∈ l.map Cell.pc, Bytes p.text ∧ Bytes p.mark := by
  intro p hp
  obtain ⟨c, _, rfl⟩ := List.mem_map.1 hp
  exact ⟨bs_bytes _, bs_bytes _⟩
theorem FlatR.ok_ {l : List Pc} {xs : List Value} (h : FlatR 3 Pc.Is xs l) : ∀ p ∈ l, p.ok := fun p hp => by
  obtain ⟨i, hi⟩ := List.mem_iff_getElem?.1 hp
  exact (h.2 i p hi).2
theorem Own1.oks {X : World} {base : Nat} {v : Value} {ps : List Pc} (h : Own1 X base 30 3 Pc.Is v ps) : ∀ p ∈ ps, p.ok := by
  obtain ⟨xs, _, h2⟩ := h
  exact h2.ok_
theorem pcs_cell {ps : List Pc} (h : ∀ p ∈ ps, p.ok) : (ps.map Pc.cell).map Cell.pc = ps := by
  rw [List.map_map]
  conv => rhs; rw [← List.map_id ps]
  refine List.map_congr_left fun p hp => ?_
  obtain ⟨h1, h2, _⟩ := h p hp
  show (⟨p.kind, bs (txt p.text), bs (txt p.mark)⟩ : Pc) = p
  rw [bs_txt h1, bs_txt h2]
theorem pcs_lt {ps : List Pc} (h : ∀ p ∈ ps, p.ok) : ∀ c ∈ ps.map Pc.cell, c.lt47 := by
  intro c hc
  obtain ⟨p, hp, rfl⟩ := List.mem_map.1 hc
  obtain ⟨_, _, h3, h4, _⟩ := h p hp
  exact ⟨by show (txt p.text).size ≤ _; rw [txt_size]; omega, by show (txt p.mark).size ≤ _; rw [txt_size]; omega⟩
theorem lawTb {l : List Cell} {v : Value} (s : ByteArray) (hsz : s.size ≤ maxLen) (w : World) (hs : SlR w w.heap.size 3 Cell.Is v l) (h47 : ∀ c ∈ l, c.lt47) (hm : Marks w) (hg : Signs w) :
    Calls Tryd.prog 4 #[v, .string s] w fun e w' => e = .returned (.bool true) ∧ Below w.heap.size w w' := by
  have h4w : 4 < w.heap.size := by
    obtain ⟨t, fr, h⟩ := signs_block hg
    rcases Nat.lt_or_ge 4 w.heap.size with h0 | h0
    · exact h0
    · rw [Array.getElem?_eq_none h0] at h; cases h
  obtain ⟨a, c, rfl⟩ : ∃ a c, v = .slice a l.length c := by obtain ⟨a, c, h, _⟩ := hs.form; exact ⟨a, c, h⟩
  obtain ⟨n, hn⟩ : ∃ n, l.length = n := ⟨_, rfl⟩
  rw [hn] at hs ⊢
  obtain ⟨⟨t, et⟩, hpt⟩ : ∃ z, printP (l.map Cell.pc) = z := ⟨_, rfl⟩
  obtain ⟨⟨m, at_, er⟩, hR⟩ : ∃ z, rowN (bs s) = z := ⟨_, rfl⟩
  have AW := zH (awake_any w hm hg)
  have PR := zH (fun W (hW : Below w.heap.size w W) => (show Calls Tryd.prog 11 #[.slice a n c] W fun e w' => e = .returned (.tuple #[.string (txt t), .int .i64 (et : Int)]) ∧ Below W.heap.size W w' by
    have := print_row W w hs h47 hm hg hW
    rwa [hpt] at this))
  have PA := zH (fun W (hW : Below w.heap.size w W) => (show Calls Tryd.prog 7 #[.string s] W (RowIs W (m, at_, er)) by have := row_any s hsz W (hm.below hW) (hg.of_block (hW.block 4 h4w)); rwa [hR] at this))
  have HSL := zH (fun W (hW : Below w.heap.size w W) => (hs.below hW).more hW.size)
  have HMG := zH (fun W (hW : Below w.heap.size w W) => And.intro (hm.below hW) (hg.of_block (hW.block 4 h4w)))
  have PB : et = 0 → Hid (∀ W, Below w.heap.size w W → Calls Tryd.prog 7 #[.string (txt t)] W (RowIs W (l.map Cell.pc, 0, 0))) := fun h0 => zH (fun W hW => by
    subst h0
    obtain ⟨h1, h2, h3⟩ := print_parse (pcs_bytes l) hpt
    have := row_any (txt t) (by rw [txt_size]; unfold maxLen; omega) W (hm.below hW) (hg.of_block (hW.block 4 h4w))
    rwa [bs_txt h2, h1] at this)
  obtain ⟨hq0, hq1⟩ := parse_print (bs_bytes s) hR
  have HR : er = 0 → Hid (at_ = 0 ∧ (rightP m).2 = 0 ∧ printP m = (bs s, 0)) := fun h => zH ⟨(hq0 h).1, (hq0 h).2.1, (hq0 h).2.2.1⟩
  have HE : er ≠ 0 → Hid (m = [] ∧ at_ ≤ s.size) := fun h => zH ⟨(hq1 h).1, by have := (hq1 h).2.1; rwa [bs_len] at this⟩
  have HN := zH hn
  clear hs h47 hm hg h4w hpt hR hq0 hq1 hsz hn
  go_enter Tryd.func4, Tryd.ntmps4
  go_upto_region 4 with (first
    | (go_at_call 10; (refine AW.out.mono ?_); rintro e w1 ⟨rfl, h1⟩; have B1 := zH h1; clear h1)
    | (go_at_call 11; (refine (PR.out _ B1.out).mono ?_); rintro e w2 ⟨rfl, h1⟩; have B2 := zH (B1.out.trans (h1.mono B1.out.size)); clear h1))
  clear B1 AW
  by_cases het : et = 0
  · have PBx := PB het
    subst het
    go_upto_region 8 with (first
      | (go_at_call 7; go_must (refine (PBx.out _ B2.out).mono ?_); rintro e w3 ⟨v3, rfl, h1, h2⟩; obtain ⟨a3, c3, hv3⟩ := h1.form; go_must (rw [List.length_map, HN.out] at hv3); subst hv3; go_must (have SM := zH (same_pieces w3 w3 (HSL.out w3 (B2.out.trans (h2.mono B2.out.size))) (own_cells h1 zB) zB)); go_must (rw [cells_pc, decide_eq_true (rfl : l = l)] at SM); go_must (have B3 := zH (B2.out.trans (h2.mono B2.out.size))); clear h1 h2)
      | (go_at_call 9; go_must (refine SM.out.mono ?_); rintro e w4 ⟨rfl, h1⟩; go_must (have B4 := zH (B3.out.trans (h1.below _))); clear h1))
    clear SM B3 B2 PB PBx PR HSL
    by_cases her : er = 0
    · obtain ⟨rfl, hrr, hpp⟩ := (HR her).out
      subst her
      clear HR HE
      have HRP := zH (And.intro hrr hpp)
      clear hrr hpp
      go_wp2_with (first
        | (go_at_call 7; go_must (refine (PA.out _ B4.out).mono ?_); rintro e w5 ⟨v5, rfl, h1, h2⟩; obtain ⟨a5, c5, rfl⟩ := h1.form; have OK5 := zH h1.oks; have O5 := zH (fun W hW => own_cells (Y := W) h1 hW); have B5 := zH (B4.out.trans (h2.mono B4.out.size)); have G5 := zH (HMG.out _ B5.out); clear h1 h2)
        | (go_at_call 12; go_must (refine (right_row (w := w5) (w0 := w5) (l := m.map Pc.cell) (O5.out _ zB) (pcs_lt OK5.out) G5.out.1 G5.out.2 zB).mono ?_); go_must (rw [pcs_cell OK5.out, HRP.out.1]); rintro e w6 ⟨rfl, h1⟩; have B6 := zH h1; clear h1)
        | (go_at_call 11; go_must (refine (print_row (w := w6) (w0 := w5) (l := m.map Pc.cell) (O5.out _ zB) (pcs_lt OK5.out) G5.out.1 G5.out.2 B6.out).mono ?_); go_must (rw [pcs_cell OK5.out, HRP.out.2, txt_bs]); rintro e w7 ⟨rfl, h1⟩; have B7 := zH (B5.out.trans ((B6.out.trans (h1.mono B6.out.size)).mono B5.out.size)); clear h1))
      go_ret
      exact ⟨rfl, B7.out⟩
    · obtain ⟨rfl, hat⟩ := (HE her).out
      have her2 : (er : Int) ≠ 0 := by omega
      have dh : ((er : Int) != 0) = true := by simpa using her
      have da : (0 : Int) ≤ (at_ : Int) := Int.natCast_nonneg _
      have da2 : (at_ : Int) ≤ (s.size : Int) := by omega
      clear HR HE her hat
      go_wp2_with (go_at_call 7; go_must (refine (PA.out _ B4.out).mono ?_); rintro e w5 ⟨v5, rfl, h1, h2⟩; obtain ⟨a5, c5, rfl⟩ := h1.form; have B5 := zH (B4.out.trans (h2.mono B4.out.size)); clear h1 h2)
      go_ret
      exact ⟨rfl, B5.out⟩
  · have dd : ((et : Int) == 0) = false := by simpa using het
    have dd2 : (et : Int) ≠ 0 := by omega
    clear PB PR HSL het
    go_upto_region 8 with fail
    by_cases her : er = 0
    · obtain ⟨rfl, hrr, hpp⟩ := (HR her).out
      subst her
      clear HR HE
      have HRP := zH (And.intro hrr hpp)
      clear hrr hpp
      go_wp2_with (first
        | (go_at_call 7; go_must (refine (PA.out _ B2.out).mono ?_); rintro e w5 ⟨v5, rfl, h1, h2⟩; obtain ⟨a5, c5, rfl⟩ := h1.form; have OK5 := zH h1.oks; have O5 := zH (fun W hW => own_cells (Y := W) h1 hW); have B5 := zH (B2.out.trans (h2.mono B2.out.size)); have G5 := zH (HMG.out _ B5.out); clear h1 h2)
        | (go_at_call 12; go_must (refine (right_row (w := w5) (w0 := w5) (l := m.map Pc.cell) (O5.out _ zB) (pcs_lt OK5.out) G5.out.1 G5.out.2 zB).mono ?_); go_must (rw [pcs_cell OK5.out, HRP.out.1]); rintro e w6 ⟨rfl, h1⟩; have B6 := zH h1; clear h1)
        | (go_at_call 11; go_must (refine (print_row (w := w6) (w0 := w5) (l := m.map Pc.cell) (O5.out _ zB) (pcs_lt OK5.out) G5.out.1 G5.out.2 B6.out).mono ?_); go_must (rw [pcs_cell OK5.out, HRP.out.2, txt_bs]); rintro e w7 ⟨rfl, h1⟩; have B7 := zH (B5.out.trans ((B6.out.trans (h1.mono B6.out.size)).mono B5.out.size)); clear h1))
      go_ret
      exact ⟨rfl, B7.out⟩
    · obtain ⟨rfl, hat⟩ := (HE her).out
      have her2 : (er : Int) ≠ 0 := by omega
      have dh : ((er : Int) != 0) = true := by simpa using her
      have da : (0 : Int) ≤ (at_ : Int) := Int.natCast_nonneg _
      have da2 : (at_ : Int) ≤ (s.size : Int) := by omega
      clear HR HE her hat
      go_wp2_with (go_at_call 7; go_must (refine (PA.out _ B2.out).mono ?_); rintro e w5 ⟨v5, rfl, h1, h2⟩; obtain ⟨a5, c5, rfl⟩ := h1.form; have B5 := zH (B2.out.trans (h2.mono B2.out.size)); clear h1 h2)
      go_ret
      exact ⟨rfl, B5.out⟩
end Go.Proofs.YtpkggobhhieeoaaDoor
namespace Go.Proofs.YtpkggobhhieeoaaDoor
open Go.RowKit Go.ChangeShapes Go.WideShapes Go.Deep
theorem open_Piece {H : Type} {enc : TypeId × Value → H} {w : World} {n : Nat} {x : List Value} {d : DataW H × List MemPlace} (h : DataW.trod enc Tryd.prog w 0 (fun _ => true) true n 30 x = some d) (hl : Light Tryd.prog 30 d.1) : ∃ z, Cell.Is x z ∧ z.lt47 := by
  obtain ⟨hlen, m, hf⟩ := open_fields_light Tryd.underlying30 (by kernel_rfl) (by kernel_rfl) h hl
  obtain ⟨u0, u1, u2, rfl⟩ := len3 hlen
  obtain ⟨u, y, hu, hy, hL⟩ := hf 0 _ rfl
  obtain rfl : u0 = u := by simpa using hu
  obtain ⟨a0, hk, _, b0⟩ := DataW.trod_int Tryd.underlying3 hy
  simp at hk
  subst hk
  clear hu hy hL
  obtain ⟨u, y, hu, hy, hL⟩ := hf 1 _ rfl
  obtain rfl : u1 = u := by simpa using hu
  obtain ⟨a1, rfl, b1⟩ := open_text Tryd.underlying9 hy hL
  clear hu hy hL
  obtain ⟨u, y, hu, hy, hL⟩ := hf 2 _ rfl
  obtain rfl : u2 = u := by simpa using hu
  obtain ⟨a2, rfl, b2⟩ := open_text Tryd.underlying9 hy hL
  have m1 : a1.size ≤ maxLen := by unfold maxLen; omega
  have m2 : a2.size ≤ maxLen := by unfold maxLen; omega
  have m3 : a1.size ≤ 140737488355328 := by omega
  have m4 : a2.size ≤ 140737488355328 := by omega
  exact ⟨⟨a0, a1, a2⟩, ⟨rfl, b0, m1, m2⟩, m3, m4⟩
theorem open_Pieces {H : Type} {enc : TypeId × Value → H} {w : World} {n : Nat} {v : Value} {d : DataW H × List MemPlace} (h : DataW.trod enc Tryd.prog w 0 (fun _ => true) true n 22 [v] = some d) (hl : Light Tryd.prog 22 d.1) :
    ∃ l : List Cell, SlR w w.heap.size 3 Cell.Is v l ∧ (∀ c ∈ l, c.lt47) ∧ l.length * 40 ≤ 140737488355328 := by
  obtain ⟨l, h1, h2⟩ := open_SlR_light (size := 3) (bytes := 40) (fun x z => Cell.Is x z ∧ Cell.lt47 z) Tryd.underlying22 (by kernel_rfl) (by omega) (by kernel_rfl) h hl (fun _ _ _ _ h hl => open_Piece h hl)
  refine ⟨l, h1.imp fun _ _ h => h.1, fun d hd => ?_, h2⟩
  obtain ⟨i, hi⟩ := List.mem_iff_getElem?.1 hd
  obtain ⟨a, c, rfl, _, _, h3⟩ := h1
  obtain ⟨b, off, _, _, hc⟩ := h3 (by have := (List.getElem?_eq_some_iff.1 hi).1; omega)
  obtain ⟨x, _, hx, _⟩ := hc i d hi
  exact hx.2
end Go.Proofs.YtpkggobhhieeoaaDoor
