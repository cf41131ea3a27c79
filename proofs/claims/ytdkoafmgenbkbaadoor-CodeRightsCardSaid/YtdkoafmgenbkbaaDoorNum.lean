/- The plain law of numbers: a text has a number just if the number's one text is that text; no condition. -/
import Derived.Test.YtdkoafmgenbkbaaDoorStr
import Derived.Lib.ParseIntB
import Derived.Lib.ItoaNum
namespace Go.Proofs.YtdkoafmgenbkbaaDoor
set_option linter.unusedSimpArgs false
set_option linter.unusedVariables false

/-- the decimal digits of a number -/
def dec (u : Nat) : List Nat := if h : u < 10 then [48 + u] else dec (u / 10) ++ [48 + u % 10]
termination_by u
decreasing_by omega
/-- what digits spell, behind 'a' -/
def val (a : Nat) (l : List Nat) : Nat := l.foldl (fun a c => 10 * a + (c - 48)) a
def Digits (l : List Nat) : Prop := ∀ c ∈ l, 48 ≤ c ∧ c ≤ 57
instance (l : List Nat) : Decidable (Digits l) := inferInstanceAs (Decidable (∀ c ∈ l, 48 ≤ c ∧ c ≤ 57))
/-- a number's one text -/
def showN (n : Int) : List Nat := if n < 0 then 45 :: dec n.natAbs else dec n.toNat
/-- a text's number -/
def intN (l : List Nat) : Option Int :=
  if l.head? = some 45 then
    if l.tail = [] ∨ 19 < l.tail.length ∨ l.tail.head? = some 48 then none else if Digits l.tail then (if 9223372036854775808 < val 0 l.tail then none else some (-(val 0 l.tail : Int))) else none
  else
    if l = [] ∨ 19 < l.length ∨ (l.head? = some 48 ∧ 1 < l.length) then none else if Digits l then (if 9223372036854775807 < val 0 l then none else some (val 0 l : Int)) else none

theorem dec_small {u : Nat} (h : u < 10) : dec u = [48 + u] := by rw [dec, dif_pos h]
theorem dec_big {u : Nat} (h : ¬ u < 10) : dec u = dec (u / 10) ++ [48 + u % 10] := by rw [dec, dif_neg h]
theorem val_app (a : Nat) (l m : List Nat) : val a (l ++ m) = val (val a l) m := by simp [val]
theorem val_dec (u : Nat) : val 0 (dec u) = u := by
  induction u using Nat.strongRecOn with
  | _ u ih =>
    by_cases h : u < 10
    · rw [dec_small h]; simp [val]
    · rw [dec_big h, val_app, ih (u / 10) (by omega)]; simp [val]; omega
theorem dec_digits (u : Nat) : Digits (dec u) := by
  induction u using Nat.strongRecOn with
  | _ u ih =>
    by_cases h : u < 10
    · rw [dec_small h]; intro c hc; simp at hc; omega
    · rw [dec_big h]; intro c hc
      rcases List.mem_append.1 hc with hc | hc
      · exact ih (u / 10) (by omega) c hc
      · simp at hc; omega
theorem dec_ne (u : Nat) : dec u ≠ [] := by
  by_cases h : u < 10
  · rw [dec_small h]; simp
  · rw [dec_big h]; simp
theorem dec_head (u : Nat) (h0 : u ≠ 0) : (dec u).head? ≠ some 48 := by
  induction u using Nat.strongRecOn with
  | _ u ih =>
    by_cases h : u < 10
    · rw [dec_small h]; simp; omega
    · rw [dec_big h]
      have h1 := ih (u / 10) (by omega) (by omega)
      have h2 := dec_ne (u / 10)
      cases hd : dec (u / 10) with
      | nil => exact absurd hd h2
      | cons a t => rw [hd] at h1; simpa using h1
theorem dec_len (u n : Nat) (h : u < 10 ^ n) (hn : 0 < n) : (dec u).length ≤ n := by
  induction n generalizing u with
  | zero => omega
  | succ n ih =>
    by_cases h1 : u < 10
    · rw [dec_small h1]; simp
    · rw [dec_big h1, List.length_append]
      have hn0 : 0 < n := by
        rcases Nat.eq_zero_or_pos n with rfl | hp
        · simp at h; omega
        · exact hp
      have := ih (u / 10) (by rw [Nat.pow_succ] at h; omega) hn0
      simp; omega
theorem val_pos {l : List Nat} (a : Nat) (ha : 0 < a) : 0 < val a l := by
  induction l generalizing a with
  | nil => exact ha
  | cons c l ih => exact ih (10 * a + (c - 48)) (by omega)
theorem dec_val : ∀ (n : Nat) (l : List Nat), l.length = n → l ≠ [] → Digits l → (l.head? ≠ some 48 ∨ l.length = 1) → dec (val 0 l) = l
  | 0, l, hn, hne, _, _ => absurd (List.eq_nil_of_length_eq_zero hn) hne
  | n + 1, l, hn, hne, hd, hh => by
    have hl := List.dropLast_concat_getLast hne
    generalize l.dropLast = m at hl
    generalize l.getLast hne = c at hl
    subst hl
    have hc := hd c (by simp)
    rw [val_app]
    cases hm : m with
    | nil => subst hm; rw [dec_small (by simp [val]; omega)]; simp [val]; omega
    | cons b t =>
      have hb := hd b (by simp [hm])
      have h48 : b ≠ 48 := by
        rcases hh with hh | hh
        · rw [hm] at hh; simpa using hh
        · rw [hm] at hh; simp at hh
      have ih := dec_val n m (by simpa using hn) (by rw [hm]; simp) (fun x hx => hd x (by simp [hx])) (Or.inl (by rw [hm]; simpa using h48))
      have hp : 0 < val 0 m := by rw [hm]; exact val_pos (l := t) (10 * 0 + (b - 48)) (by omega)
      rw [← hm]
      show dec (10 * val 0 m + (c - 48)) = m ++ [c]
      rw [dec_big (by omega)]
      have e1 : (10 * val 0 m + (c - 48)) / 10 = val 0 m := by omega
      have e2 : 48 + (10 * val 0 m + (c - 48)) % 10 = c := by omega
      rw [e1, e2, ih]

/-- a text has a number just if that number's text it is -/
theorem intN_some {l : List Nat} {v : Int} (h : intN l = some v) : -9223372036854775808 ≤ v ∧ v ≤ 9223372036854775807 ∧ showN v = l ∧ l.length ≤ 20 := by
  unfold intN at h
  split at h
  · rename_i hb
    split at h
    · cases h
    · rename_i hc
      split at h
      · rename_i hd
        split at h
        · cases h
        · rename_i hv
          injection h with h
          subst h
          have h1 : l.tail ≠ [] := fun e => hc (Or.inl e)
          have h2 : ¬ 19 < l.tail.length := fun e => hc (Or.inr (Or.inl e))
          have h3 : l.tail.head? ≠ some 48 := fun e => hc (Or.inr (Or.inr e))
          have hdv := dec_val _ l.tail rfl h1 hd (Or.inl h3)
          have hl : l = 45 :: l.tail := by
            cases l with
            | nil => simp at hb
            | cons a t => simp at hb; simp [hb]
          have hp : 0 < val 0 l.tail := by
            rcases Nat.eq_zero_or_pos (val 0 l.tail) with h0 | h0
            · rw [h0] at hdv; rw [← hdv, dec_small (by omega)] at h3; simp at h3
            · exact h0
          refine ⟨by omega, by omega, ?_, ?_⟩
          · unfold showN
            rw [if_pos (by omega)]
            have : (-(val 0 l.tail : Int)).natAbs = val 0 l.tail := by omega
            rw [this, hdv, ← hl]
          · have e := congrArg List.length hl
            rw [List.length_cons] at e
            omega
      · cases h
  · rename_i hb
    split at h
    · cases h
    · rename_i hc
      split at h
      · rename_i hd
        split at h
        · cases h
        · rename_i hv
          injection h with h
          subst h
          have h1 : l ≠ [] := fun e => hc (Or.inl e)
          have h2 : ¬ 19 < l.length := fun e => hc (Or.inr (Or.inl e))
          have h3 : l.head? ≠ some 48 ∨ l.length = 1 := by
            by_cases e : l.head? = some 48
            · right
              have : ¬ 1 < l.length := fun e' => hc (Or.inr (Or.inr ⟨e, e'⟩))
              have : l.length ≠ 0 := fun e' => h1 (List.eq_nil_of_length_eq_zero e')
              omega
            · exact Or.inl e
          have hdv := dec_val _ l rfl h1 hd h3
          refine ⟨by omega, by omega, ?_, by omega⟩
          unfold showN
          rw [if_neg (by omega)]
          simp [hdv]
      · cases h
theorem intN_show {v : Int} (h1 : -9223372036854775808 ≤ v) (h2 : v ≤ 9223372036854775807) : intN (showN v) = some v := by
  unfold showN
  split
  · rename_i hneg
    obtain ⟨u, rfl⟩ : ∃ u : Nat, v = -(u : Int) := ⟨v.natAbs, by omega⟩
    have e : (-(u : Int)).natAbs = u := by omega
    rw [e]
    have hu : u ≠ 0 := by omega
    have hlen : (dec u).length ≤ 19 := dec_len u 19 (by omega) (by omega)
    unfold intN
    rw [if_pos (show (45 :: dec u).head? = some 45 from rfl)]
    have hc : ¬ ((45 :: dec u).tail = [] ∨ 19 < (45 :: dec u).tail.length ∨ (45 :: dec u).tail.head? = some 48) := by
      rw [List.tail_cons]
      intro hx
      rcases hx with hx | hx | hx
      · exact dec_ne u hx
      · omega
      · exact dec_head u hu hx
    rw [if_neg hc, if_pos (show Digits (45 :: dec u).tail from dec_digits u), if_neg (show ¬ 9223372036854775808 < val 0 (45 :: dec u).tail by rw [List.tail_cons, val_dec]; omega), List.tail_cons, val_dec]
  · rename_i hneg
    obtain ⟨u, rfl⟩ : ∃ u : Nat, v = (u : Int) := ⟨v.toNat, by omega⟩
    rw [Int.toNat_natCast]
    have hlen : (dec u).length ≤ 19 := dec_len u 19 (by omega) (by omega)
    have hne := dec_ne u
    have hdg := dec_digits u
    unfold intN
    have hh : (dec u).head? ≠ some 45 := by
      cases hd : dec u with
      | nil => simp
      | cons a t =>
        have := hdg a (by rw [hd]; simp)
        simp; omega
    rw [if_neg hh]
    have hc : ¬ (dec u = [] ∨ 19 < (dec u).length ∨ ((dec u).head? = some 48 ∧ 1 < (dec u).length)) := by
      intro hx
      rcases hx with hx | hx | ⟨hx, hy⟩
      · exact hne hx
      · omega
      · rcases Nat.eq_zero_or_pos u with h0 | h0
        · subst h0; rw [dec_small (by omega)] at hy; simp at hy
        · exact dec_head u (by omega) hx
    rw [if_neg hc, if_pos hdg, val_dec, if_neg (by omega)]

/-- the library's words for the same -/
theorem dec_lib (u : Nat) : (Lib.decDigits u).map UInt8.toNat = dec u := by
  induction u using Nat.strongRecOn with
  | _ u ih =>
    rw [Lib.decDigits, dec]
    by_cases h : u < 10
    · rw [dif_pos h, dif_pos h]
      simp; omega
    · rw [dif_neg h, dif_neg h, List.map_append, ih (u / 10) (by omega)]
      simp; omega
theorem show_lib (n : Int) : (Lib.itoa n).map UInt8.toNat = showN n := by
  unfold Lib.itoa showN
  split
  · rw [List.map_cons, dec_lib]; rfl
  · exact dec_lib _
theorem show_txt (n : Int) : (⟨(Lib.itoa n).toArray⟩ : ByteArray) = txt (showN n) := by
  apply bs_inj
  rw [bs_txt]
  · rw [← show_lib]; simp [bs]
  · intro c hc
    rw [← show_lib, List.mem_map] at hc
    obtain ⟨b, _, rfl⟩ := hc
    exact b.toNat_lt
theorem parse_digits : ∀ (l : List UInt8) (acc : Nat), Digits (l.map UInt8.toNat) → val acc (l.map UInt8.toNat) ≤ 2 ^ 64 - 1 → Lib.parseUintM (2 ^ 64 - 1) acc l = .ok (val acc (l.map UInt8.toNat))
  | [], acc, _, _ => rfl
  | c :: l, acc, hd, hv => by
    have hc := hd c.toNat (by simp)
    have hge : ∀ (m : List Nat) (a : Nat), a ≤ val a m := by
      intro m
      induction m with
      | nil => intro a; exact Nat.le_refl _
      | cons x m ih => intro a; exact Nat.le_trans (by omega) (ih (10 * a + (x - 48)))
    have hv' : val (10 * acc + (c.toNat - 48)) (l.map UInt8.toNat) ≤ 2 ^ 64 - 1 := hv
    have h1 := hge (l.map UInt8.toNat) (10 * acc + (c.toNat - 48))
    have e : acc * 10 + (c.toNat - 48) = 10 * acc + (c.toNat - 48) := by omega
    rw [Lib.parseUintM, if_pos hc, if_neg (by omega), if_neg (by omega), e]
    exact parse_digits l _ (fun x hx => hd x (by simp at hx ⊢; exact Or.inr hx)) hv'
theorem parse_dec (u : Nat) (h : u ≤ 2 ^ 64 - 1) : Lib.parseUintB 64 (Lib.decDigits u) = .ok u := by
  have hne : Lib.decDigits u ≠ [] := by
    intro e
    have := dec_lib u
    rw [e] at this
    exact dec_ne u this.symm
  unfold Lib.parseUintB
  rw [if_neg hne, parse_digits _ _ (by rw [dec_lib]; exact dec_digits u) (by rw [dec_lib, val_dec]; exact h), dec_lib, val_dec]
theorem parse_show {v : Int} (h1 : -9223372036854775808 ≤ v) (h2 : v ≤ 9223372036854775807) : Lib.parseIntB 64 (Lib.itoa v) = .ok v := by
  unfold Lib.itoa
  split
  · rename_i hneg
    obtain ⟨u, rfl⟩ : ∃ u : Nat, v = -(u : Int) := ⟨v.natAbs, by omega⟩
    have e : (-(u : Int)).natAbs = u := by omega
    rw [e]
    have hp := parse_dec u (by omega)
    have h45 : (45 : UInt8).toNat = 45 := rfl
    simp only [Lib.parseIntB, h45]
    rw [if_pos (Or.inr trivial), hp]
    simp only
    rw [if_neg (by simp), if_neg (by simp; omega), if_pos trivial]
  · rename_i hneg
    obtain ⟨u, rfl⟩ : ∃ u : Nat, v = (u : Int) := ⟨v.toNat, by omega⟩
    rw [Int.toNat_natCast]
    have hp := parse_dec u (by omega)
    have hdl := dec_lib u
    have hdg := dec_digits u
    cases hd : Lib.decDigits u with
    | nil => rw [hd] at hdl; exact absurd hdl.symm (dec_ne u)
    | cons c t =>
      have hc : 48 ≤ c.toNat ∧ c.toNat ≤ 57 := hdg _ (by rw [← hdl, hd]; simp)
      rw [hd] at hp
      simp only [Lib.parseIntB]
      rw [if_neg (by omega), hp]
      simp only
      rw [if_neg (by simp; omega), if_neg (by omega), if_neg (by omega)]
/-- what the program asks of a text, against what the chapter says -/
theorem int_of_parse (s : ByteArray) (v : Int) (h : Lib.parseIntB 64 s.data.toList = .ok v) (h1 : -9223372036854775808 ≤ v) (h2 : v ≤ 9223372036854775807) (hs : (⟨(Lib.itoa v).toArray⟩ : ByteArray) = s) : intN (bs s) = some v := by
  rw [← hs, show_txt, bs_txt]
  · exact intN_show h1 h2
  · intro c hc
    rw [← show_lib, List.mem_map] at hc
    obtain ⟨b, _, rfl⟩ := hc
    exact b.toNat_lt
theorem parse_of_int (s : ByteArray) (v : Int) (h : intN (bs s) = some v) : Lib.parseIntB 64 s.data.toList = .ok v ∧ (⟨(Lib.itoa v).toArray⟩ : ByteArray) = s ∧ s.size ≤ 20 := by
  obtain ⟨h1, h2, h3, h4⟩ := intN_some h
  have hs : (⟨(Lib.itoa v).toArray⟩ : ByteArray) = s := by rw [show_txt, h3, txt_bs]
  refine ⟨?_, hs, by rw [← bs_len]; exact h4⟩
  rw [← hs]
  exact parse_show h1 h2
end Go.Proofs.YtdkoafmgenbkbaaDoor
