/- The whole reading of a text into tokens, as a plain function; no condition. -/
import Derived.Test.YtlenenfgedgmhaaDoorLexNum
namespace Go.Proofs.YtlenenfgedgmhaaDoor
set_option linter.unusedSimpArgs false
set_option linter.unusedVariables false

theorem unq_some : ∀ (f i : Nat) (l o s : List Nat) (k : Nat), Bytes l → Bytes o → unq l f i o = (s, k, 0) → Bytes s ∧ i < k ∧ k ≤ l.length
  | 0, i, l, o, s, k, _, _, h => by simp [unq] at h
  | f + 1, i, l, o, s, k, hl, ho, h => by
    rw [unq] at h
    split at h
    · rename_i hi
      injection h with h1 h2
      injection h2 with h2 _
      subst h1 h2
      exact ⟨ho, by omega, (List.getElem?_eq_some_iff.1 hi).1⟩
    · rename_i hi
      split at h
      · rename_i c n m hone
        have hd : Bytes (l.drop i) := fun x hx => hl x (List.mem_of_mem_drop hx)
        obtain ⟨c1, c2, _⟩ := one_some hd (by rw [List.head?_drop]; exact hi) hone
        have := (form_len c).1
        obtain ⟨a1, a2, a3⟩ := unq_some f (i + n) l (o ++ [c]) s k hl (bytes_app ho (fun x hx => by simp at hx; omega)) h
        exact ⟨a1, by omega, a3⟩
      · simp at h

theorem unq_err : ∀ (f i : Nat) (l o s : List Nat) (k e : Nat), unq l f i o = (s, k, e) → e ≠ 0 → e = 10
  | 0, i, l, o, s, k, e, h, _ => by simp [unq] at h; omega
  | f + 1, i, l, o, s, k, e, h, he => by
    rw [unq] at h
    split at h
    · simp at h; omega
    · split at h
      · exact unq_err f _ l _ s k e h he
      · simp at h; omega
/-- how a text in quotes is read from a place on -/
def quoteAt (l : List Nat) (i : Nat) : List Nat × Nat × Nat := unq l (l.length + 1) (i + 1) []
theorem unquote_at {l : List Nat} {i : Nat} (h : l[i]? = some 34) : unquoteN l i = ((quoteAt l i).1, ((quoteAt l i).2.1 : Int), (quoteAt l i).2.2) := by
  have := (List.getElem?_eq_some_iff.1 h).1
  unfold unquoteN quoteAt
  rw [if_neg (by omega), Int.toNat_natCast, if_neg (by rw [h]; simp)]

def scanT (l : List Nat) : Nat → Nat → List Tok → List Tok × Nat × Nat
  | 0, _, out => (out, 0, 0)
  | f + 1, i, out => match l[i]? with
    | none => (out, 0, 0)
    | some c =>
      if c = 32 ∨ c = 10 then scanT l f (i + 1) out
      else if c = 34 then (if (quoteAt l i).2.2 = 0 then scanT l f (quoteAt l i).2.1 (out ++ [⟨2, (quoteAt l i).1, 0, i⟩]) else ([], (quoteAt l i).2.1, 70))
      else match (stepP (l.drop i)).1 with
        | some (k, s, v) => scanT l f (i + (stepP (l.drop i)).2) (out ++ [⟨k, s, v, i⟩])
        | none => ([], i + (stepP (l.drop i)).2, 70)
/-- what a text is cut into: tokens, a place, an error -/
def scanN (l : List Nat) : List Tok × Nat × Nat := if 4096 < l.length then ([], 0, 3) else scanT l (l.length + 1) 0 []

theorem scan_end {l : List Nat} {f i : Nat} {o : List Tok} {R : List Tok × Nat × Nat} (h : scanT l f i o = R) (hi : l.length ≤ i) : R = (o, 0, 0) := by
  cases f with
  | zero => exact h.symm
  | succ f => rw [scanT, List.getElem?_eq_none hi] at h; exact h.symm
theorem scan_blank {l : List Nat} {f i c : Nat} {o : List Tok} {R : List Tok × Nat × Nat} (h : scanT l f i o = R) (hf : 1 ≤ f) (hi : l[i]? = some c) (hc : c = 32 ∨ c = 10) : scanT l (f - 1) (i + 1) o = R := by
  obtain ⟨f, rfl⟩ : ∃ g, f = g + 1 := ⟨f - 1, by omega⟩
  rw [scanT, hi] at h
  simp only at h
  rw [if_pos hc] at h
  exact h
theorem scan_quote {l : List Nat} {f i k : Nat} {s : List Nat} {o : List Tok} {R : List Tok × Nat × Nat} (h : scanT l f i o = R) (hf : 1 ≤ f) (hi : l[i]? = some 34) (hq : quoteAt l i = (s, k, 0)) : scanT l (f - 1) k (o ++ [⟨2, s, 0, i⟩]) = R := by
  obtain ⟨f, rfl⟩ : ∃ g, f = g + 1 := ⟨f - 1, by omega⟩
  rw [scanT, hi] at h
  simp only at h
  rw [if_neg (by omega), if_pos trivial, hq, if_pos rfl] at h
  exact h
theorem scan_quote_no {l : List Nat} {f i k e : Nat} {s : List Nat} {o : List Tok} {R : List Tok × Nat × Nat} (h : scanT l f i o = R) (hf : 1 ≤ f) (hi : l[i]? = some 34) (hq : quoteAt l i = (s, k, e)) (he : e ≠ 0) : R = ([], k, 70) := by
  obtain ⟨f, rfl⟩ : ∃ g, f = g + 1 := ⟨f - 1, by omega⟩
  rw [scanT, hi] at h
  simp only at h
  rw [if_neg (by omega), if_pos trivial, hq, if_neg he] at h
  exact h.symm
theorem scan_step {l : List Nat} {f i c k n : Nat} {s : List Nat} {v : Int} {o : List Tok} {R : List Tok × Nat × Nat} (h : scanT l f i o = R) (hf : 1 ≤ f) (hi : l[i]? = some c) (hc : ¬ (c = 32 ∨ c = 10)) (hq : c ≠ 34) (hs : stepP (l.drop i) = (some (k, s, v), n)) : scanT l (f - 1) (i + n) (o ++ [⟨k, s, v, i⟩]) = R := by
  obtain ⟨f, rfl⟩ : ∃ g, f = g + 1 := ⟨f - 1, by omega⟩
  rw [scanT, hi] at h
  simp only at h
  rw [if_neg hc, if_neg hq, hs] at h
  exact h
theorem scan_step_no {l : List Nat} {f i c n : Nat} {o : List Tok} {R : List Tok × Nat × Nat} (h : scanT l f i o = R) (hf : 1 ≤ f) (hi : l[i]? = some c) (hc : ¬ (c = 32 ∨ c = 10)) (hq : c ≠ 34) (hs : stepP (l.drop i) = (none, n)) : R = ([], i + n, 70) := by
  obtain ⟨f, rfl⟩ : ∃ g, f = g + 1 := ⟨f - 1, by omega⟩
  rw [scanT, hi] at h
  simp only at h
  rw [if_neg hc, if_neg hq, hs] at h
  exact h.symm
/-- a token takes one byte at least, and no more than there are; its text is of bytes -/
theorem lenFrom_le (r : List Nat) : ∀ (f k : Nat), k ≤ r.length → lenFrom r f k ≤ r.length
  | 0, k, h => h
  | f + 1, k, h => by
    simp only [lenFrom]
    split
    · exact lenFrom_le r f (k + 1) (by omega)
    · exact h
theorem step_some {r : List Nat} {k n : Nat} {s : List Nat} {v : Int} (hr : Bytes r) (h : stepP r = (some (k, s, v), n)) : 1 ≤ n ∧ n ≤ r.length ∧ Bytes s ∧ k < 6 ∧ -9223372036854775808 ≤ v ∧ v ≤ 9223372036854775807 := by
  rw [← step_same] at h
  unfold stepR at h
  have hle := lenFrom_le r r.length 0 (Nat.zero_le _)
  generalize lenFrom r r.length 0 = m at h hle
  cases hw : wholeN (r.take m) with
  | none => rw [hw] at h; simp at h
  | some t =>
    obtain ⟨k', s', v'⟩ := t
    rw [hw] at h
    simp only at h
    split at h
    · simp at h
    · simp only [Prod.mk.injEq, Option.some.injEq] at h
      obtain ⟨⟨rfl, rfl, rfl⟩, rfl⟩ := h
      have h0 : m ≠ 0 := by
        rintro rfl
        rw [List.take_zero, whole_nil] at hw
        cases hw
      have hb : Bytes (r.take m) := fun x hx => hr x (List.mem_of_mem_take hx)
      refine ⟨by omega, hle, ?_⟩
      unfold wholeN at hw
      split at hw
      · rename_i u hu
        simp only [Option.some.injEq, Prod.mk.injEq] at hw
        obtain ⟨rfl, rfl, rfl⟩ := hw
        have hok := ok_isNumber hu
        rw [isNumber_ok hok] at hu
        injection hu with hu
        refine ⟨bytes_nil, by omega, ?_⟩
        have := hok.2.2.2
        omega
      · split at hw
        · simp only [Option.some.injEq, Prod.mk.injEq] at hw
          obtain ⟨rfl, rfl, rfl⟩ := hw
          exact ⟨hb, by omega, by omega⟩
        · split at hw
          · simp only [Option.some.injEq, Prod.mk.injEq] at hw
            obtain ⟨rfl, rfl, rfl⟩ := hw
            exact ⟨hb, by omega, by omega⟩
          · split at hw
            · simp only [Option.some.injEq, Prod.mk.injEq] at hw
              obtain ⟨rfl, rfl, rfl⟩ := hw
              exact ⟨hb, by omega, by omega⟩
            · cases hw
end Go.Proofs.YtlenenfgedgmhaaDoor
