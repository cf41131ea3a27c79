/- A text that cannot be cut cannot be cut in brackets; the plain law of texts in brackets and of places. -/
import Derived.Test.YtlenenfgedgmhaaDoorBr3
namespace Go.Proofs.YtlenenfgedgmhaaDoor
set_option linter.unusedSimpArgs false
set_option linter.unusedVariables false

theorem mark_paren {c : Nat} {t : List Nat} (h : (markN (c :: t)).1 = []) : (markN (c :: t ++ [41])).1 = [] := by
  rcases Classical.em ((markN (c :: t ++ [41])).1 = []) with e | e
  · exact e
  exfalso
  obtain ⟨h1, _, z, hz⟩ := mark_found e
  generalize (markN (c :: t ++ [41])).1 = m at h1 hz
  have hpre : ∀ y, m.isPrefixOf (m ++ y) = true := fun y => by rw [List.isPrefixOf_iff_prefix]; exact ⟨y, rfl⟩
  rcases List.eq_nil_or_concat z with rfl | ⟨z', b, rfl⟩
  · rw [List.append_nil] at hz
    subst hz
    have : ∀ m ∈ marksL, m = [41] ∨ m.getLast? ≠ some 41 := by decide
    rcases this _ h1 with h2 | h2
    · have := congrArg List.length h2
      simp at this
    · exact h2 List.getLast?_concat
  · rw [List.concat_eq_append, ← List.append_assoc] at hz
    have h2 := (List.append_inj' hz rfl).1
    have hf : marksL.find? (fun x => x.isPrefixOf (c :: t)) ≠ none := by
      intro hn
      rw [List.find?_eq_none] at hn
      have := hn m h1
      rw [h2, hpre] at this
      simp at this
    cases hc : marksL.find? (fun x => x.isPrefixOf (c :: t)) with
    | none => exact hf hc
    | some u =>
      have hu := List.mem_of_find?_eq_some hc
      have : markN (c :: t) = (u, u.length) := by unfold markN; rw [hc]
      rw [this] at h
      have h' : u = [] := h
      subst h'
      exact absurd hu (by decide)
theorem tok_paren {r : List Nat} (hr : Bytes r) (h0 : r ≠ []) {n : Nat} (h : tokR r = (none, n)) : ∃ m, tokR (r ++ [41]) = (none, m) := by
  have key : (tokR (r ++ [41])).1 = none → ∃ m, tokR (r ++ [41]) = (none, m) := fun e => ⟨(tokR (r ++ [41])).2, by rw [← e]⟩
  apply key
  cases r with
  | nil => exact absurd rfl h0
  | cons c t =>
    have ht : Bytes t := fun x hx => hr x (List.mem_cons_of_mem _ hx)
    rw [List.cons_append]
    by_cases h34 : c = 34
    · subst h34
      rw [tokR_quote] at h ⊢
      cases hq : qR (t ++ [41]) with
      | mk a k =>
        cases a with
        | none => rfl
        | some s =>
          exfalso
          have hb : Bytes (t ++ [41]) := bytes_app ht (fun x hx => by simp at hx; omega)
          obtain ⟨h1, h2, _, p, h4, _⟩ := qR_bound _ _ (Nat.le_refl _) hb _ _ hq
          rw [List.length_append, List.length_singleton] at h2
          rcases Nat.lt_or_ge t.length k with hlt | hge
          · rw [List.take_of_length_le (by simp; omega)] at h4
            have := (List.append_inj' h4 rfl).2
            simp at this
          · have hl := qR_local hb hq (t.drop k) (bytes_drop ht k)
            rw [List.take_append_of_le_length hge, List.take_append_drop] at hl
            rw [hl] at h
            cases h
    · rw [tokR_step h34] at h ⊢
      by_cases hd : 48 ≤ c ∧ c ≤ 57
      · rw [stepP_digit hd] at h ⊢
        split at h
        · cases h
        · rename_i hb
          have := num_false_app (c :: t) 0 0 [41] (by simpa using hb)
          rw [List.cons_append] at this
          rw [this, if_neg hb]
      · by_cases hlet : letterN c = true
        · rw [stepP_letter hlet] at h ⊢
          have e := tw_more (p := furtherN) (c :: t) [41]
          rw [List.cons_append] at e
          split at h
          · cases h
          · rw [if_neg (by omega)]
        · rw [stepP_mark hd hlet] at h ⊢
          split at h
          · rename_i hm
            have := mark_paren hm
            rw [List.cons_append] at this
            rw [if_pos this]
          · cases h
theorem Run.more {r : List Nat} {i : Nat} {T : List Tok} {r' : List Nat} {i' : Nat} (h : Run r i T r' i') : Bytes r → r' ≠ [] → ∀ y, Bytes y → Run (r ++ y) i T (r' ++ y) i' := by
  induction h with
  | done r i => intro _ _ y _; exact .done _ _
  | blank hb _ ih =>
    intro hr h0 y hy
    rw [List.cons_append]
    exact .blank hb (ih (fun x hx => hr x (List.mem_cons_of_mem _ hx)) h0 y hy)
  | @tok r i k s v n T r' i' hnb ht h ih =>
    intro hr h0 y hy
    obtain ⟨h4, h5, _⟩ := tok_some hr ht
    obtain ⟨m, h1, h2, h3⟩ := h.place (bytes_drop hr n)
    have hX := ih (bytes_drop hr n) h0 y hy
    have e : r.take n ++ (r.drop n ++ y) = r ++ y := by rw [← List.append_assoc, List.take_append_drop]
    have hd : r.drop n ≠ [] := fun e => h0 (by rw [h3, e, List.drop_nil])
    refine .tok (n := n) ?_ ?_ ?_
    · intro c hc
      refine hnb c ?_
      cases r with
      | nil => simp at h5; omega
      | cons a u => exact hc
    · rw [← e]
      refine tok_local hr (bytes_app (bytes_drop hr n) hy) ht (.inl ?_)
      cases hdd : r.drop n with
      | nil => exact absurd hdd hd
      | cons a u => rfl
    · rw [List.drop_append_of_le_length h5]
      exact hX
theorem scan_paren {s : List Nat} (hs : Bytes s) (h4 : s.length + 2 ≤ 4096) (he : (scanN s).2.2 ≠ 0) : (scanN (40 :: (s ++ [41]))).2.2 ≠ 0 := by
  have hb1 : Bytes [41] := fun x hx => by simp at hx; omega
  rcases scan_cases hs (by omega) with ⟨T, i', hT, e⟩ | ⟨T, r', i', n, hT, ⟨g1, g2, g3⟩, e⟩
  · rw [e] at he; exact absurd rfl he
  · have hl := (hT.more hs g1 [41] hb1).shift 1
    have hr' : Bytes r' := by obtain ⟨m, _, _, h3⟩ := hT.place hs; rw [h3]; exact bytes_drop hs m
    obtain ⟨m, hm⟩ := tok_paren hr' g1 g3
    have hR : Run (40 :: (s ++ [41])) 0 (openK 0 :: T.map (Tok.shift 1)) (r' ++ [41]) (i' + 1) := .tok (nb_cons (by decide)) (tok_open _) hl
    have hst : Stuck (r' ++ [41]) m := ⟨by simp, fun c hc => g2 c (by cases r' with
      | nil => exact absurd rfl g1
      | cons a u => exact hc), hm⟩
    rw [scan_no (bytes_cons (by omega) (bytes_app hs hb1)) (by simp; omega) hR hst]
    simp
theorem parseN_scan {s : List Nat} (h : (scanN s).2.2 ≠ 0) : parseN s = ([], (scanN s).2.1, (scanN s).2.2) := by unfold parseN; rw [if_pos h]
theorem parseN_run {s : List Nat} {T : List Tok} (e : scanN s = (T, 0, 0)) : parseN s = match parseT T with
    | .ok t _ => if 256 < t.size ∨ 32 < t.deep then ([], 0, 4) else (t.flat 0, 0, 0)
    | .no i => ([], (match T[i]? with | some x => x.place.toNat | none => s.length), 80)
    | .out => ([], 0, 0) := by
  unfold parseN
  rw [if_neg (by rw [e]; simp), e]
  rfl
/-- A TEXT IN BRACKETS IS READ AS THE TEXT -/
theorem brackets_law {s : List Nat} (hs : Bytes s) (h4 : s.length + 2 ≤ 4096) : ((parseN s).2.2 = 0 → parseN (40 :: (s ++ [41])) = ((parseN s).1, 0, 0)) ∧ ((parseN s).2.2 = 4 → parseN (40 :: (s ++ [41])) = ([], 0, 4)) ∧ ((parseN s).2.2 ≠ 0 → (parseN s).2.2 ≠ 80 → (parseN (40 :: (s ++ [41]))).2.2 ≠ 0) := by
  by_cases he : (scanN s).2.2 = 0
  · have hb2 : Bytes (40 :: (s ++ [41])) := bytes_cons (by omega) (bytes_app hs (fun x hx => by simp at hx; omega))
    rcases scan_cases hs (by omega) with ⟨T, i', hT, e⟩ | ⟨T, r', i', n, hT, _, e⟩
    · obtain ⟨i2, hR⟩ := run_brackets hs hT
      have e2 := scan_ok hb2 (by simp; omega) hR
      have hP : ∀ t j, parseT T = .ok t j → parseN (40 :: (s ++ [41])) = if 256 < t.size ∨ 32 < t.deep then ([], 0, 4) else (t.flat 0, 0, 0) := by
        intro t j h
        obtain ⟨j', hj⟩ := parse_brackets (i2 := (i2 : Int)) h
        unfold parseN
        rw [if_neg (by rw [e2]; simp), e2]
        simp only [hj]
      have hin := parse_told T
      rw [parseN_run e]
      cases hp : parseT T with
      | ok t j =>
        rw [hP t j hp]
        simp only
        split
        · exact ⟨fun h => (by simp at h), fun _ => rfl, fun _ _ => (by simp)⟩
        · exact ⟨fun _ => rfl, fun h => (by simp at h), fun h => absurd rfl h⟩
      | no i => exact ⟨fun h => (by simp at h), fun h => (by simp at h), fun _ h => absurd rfl h⟩
      | out =>
        exfalso
        unfold parseT at hp
        cases hq : pL T (12 * T.length + 10) 1 0 with
        | out => rw [hq] at hin; exact hin
        | no k => rw [hq] at hp; cases hp
        | ok u k =>
          rw [hq] at hp
          simp only [PR.bind] at hp
          split at hp <;> cases hp
    · rw [e] at he; cases he
  · have h2 := scan_paren hs h4 he
    rw [parseN_scan he, parseN_scan h2]
    have := ((scan_back hs).2 he).2
    exact ⟨fun h => absurd h he, fun h => by simp only at h; omega, fun _ _ => h2⟩
/-- WHAT STANDS AHEAD OF THE PLACE OF AN ERROR -/
theorem cut_law {s : List Nat} (hs : Bytes s) (he : (parseN s).2.2 = 80) : (parseN s).2.1 ≤ s.length ∧ ((parseN (s.take (parseN s).2.1)).2.2 ≠ 80 ∨ (parseN (s.take (parseN s).2.1)).2.1 = (parseN s).2.1) := by
  by_cases h4 : s.length ≤ 4096
  rotate_left
  · exfalso
    have e : scanN s = ([], 0, 3) := by unfold scanN; rw [if_pos (by omega)]
    rw [parseN_scan (by rw [e]; decide), e] at he
    cases he
  rcases scan_cases hs h4 with ⟨T, i', hT, e⟩ | ⟨T, r', i', n, hT, _, e⟩
  rotate_left
  · exfalso
    rw [parseN_scan (by rw [e]; simp), e] at he
    cases he
  have hN := parseN_run e
  cases hp : parseT T with
  | out => rw [hN, hp] at he; cases he
  | ok t j =>
    rw [hN, hp] at he
    simp only at he
    split at he <;> cases he
  | no i =>
    rw [hp] at hN
    simp only at hN
    cases hi : T[i]? with
    | none =>
      rw [hi] at hN
      simp only at hN
      rw [hN]
      refine ⟨Nat.le_refl _, .inr ?_⟩
      show (parseN (s.take s.length)).2.1 = s.length
      rw [List.take_length, hN]
    | some x =>
      rw [hi] at hN
      simp only at hN
      obtain ⟨i1, hx, hle, hsc⟩ := scan_cut hs h4 hT hi
      have hx' : x.place.toNat = i1 := by omega
      rw [hx'] at hN
      rw [hN]
      refine ⟨hle, ?_⟩
      show (parseN (s.take i1)).2.2 ≠ 80 ∨ (parseN (s.take i1)).2.1 = i1
      rw [parseN_run hsc]
      cases hq : parseT (T.take i) with
      | out => exact .inl (by simp)
      | ok t j =>
        left
        simp only
        split <;> simp
      | no j =>
        right
        have hlt := (List.getElem?_eq_some_iff.1 hi).1
        have := parse_cut hp hlt j hq
        simp only
        rw [List.getElem?_eq_none (by rw [List.length_take]; omega)]
        simp only [List.length_take]
        omega
end Go.Proofs.YtlenenfgedgmhaaDoor
