/- The plain law of quotes that are read back: what is put in quotes is read as it was, wherever it stands, and what is read has just those quotes. -/
import Derived.Test.YtffhogadgjnkkaaDoorUnq
namespace Go.Proofs.YtffhogadgjnkkaaDoor

theorem form_head (c : Nat) : (formN c).head? ≠ some 34 := by
  rcases form_cases c with ⟨_, h⟩ | ⟨_, h⟩ | ⟨_, h⟩ | ⟨_, _, h3, _, h⟩ | ⟨_, h⟩ <;> rw [h] <;> simp [*]
theorem unq_quote : ∀ (m : List Nat) (l : List Nat) (i f : Nat) (out rest : List Nat), Bytes m → l.drop i = m.flatMap formN ++ 34 :: rest → m.length < f → unq l f i out = (out ++ m, i + (m.flatMap formN).length + 1, 0)
  | [], l, i, f, out, rest, _, hd, hf => by
    obtain ⟨f, rfl⟩ : ∃ g, f = g + 1 := ⟨f - 1, by simp at hf; omega⟩
    have hi : l[i]? = some 34 := by rw [← List.head?_drop, hd]; rfl
    rw [unq, if_pos hi]
    simp
  | c :: m, l, i, f, out, rest, hb, hd, hf => by
    obtain ⟨f, rfl⟩ : ∃ g, f = g + 1 := ⟨f - 1, by simp at hf; omega⟩
    have hc : c < 256 := hb c (by simp)
    have hl := form_len c
    have hd' : l.drop i = formN c ++ (m.flatMap formN ++ 34 :: rest) := by rw [hd, List.flatMap_cons, List.append_assoc]
    have hi : l[i]? ≠ some 34 := by
      rw [← List.head?_drop, hd', List.head?_append]
      have := form_head c
      cases h : (formN c).head? with
      | none => rw [List.head?_eq_none_iff] at h; rw [h] at hl; simp at hl
      | some a => rw [h] at this; simpa using this
    have ho := one_of_form hc (m.flatMap formN ++ 34 :: rest)
    rw [← hd'] at ho
    rw [unq, if_neg hi, ho]
    have hn : l.drop (i + (formN c).length) = m.flatMap formN ++ 34 :: rest := by
      rw [← List.drop_drop, hd', List.drop_left]
    have ih := unq_quote m l (i + (formN c).length) f (out ++ [c]) rest (fun x hx => hb x (by simp [hx])) hn (by simp at hf; omega)
    simp only
    rw [ih]
    simp only [List.append_assoc, List.singleton_append, List.flatMap_cons, List.length_append]
    congr 2
    omega
theorem unq_ok : ∀ (f : Nat) (l : List Nat) (i : Nat) (out y : List Nat) (k : Nat), Bytes l → Bytes out → i ≤ l.length → l.take i = 34 :: out.flatMap formN → unq l f i out = (y, k, 0) → l.take k = quoteN y ∧ k ≤ l.length ∧ Bytes y
  | 0, l, i, out, y, k, _, _, _, _, h => by simp [unq] at h
  | f + 1, l, i, out, y, k, hb, ho, hi, ht, h => by
    rw [unq] at h
    by_cases h34 : l[i]? = some 34
    · rw [if_pos h34] at h
      simp only [Prod.mk.injEq] at h
      obtain ⟨rfl, rfl, _⟩ := h
      have hlt := (List.getElem?_eq_some_iff.1 h34).1
      refine ⟨?_, by omega, ho⟩
      rw [List.take_succ_eq_append_getElem hlt, (List.getElem?_eq_some_iff.1 h34).2, ht]
      rfl
    · rw [if_neg h34] at h
      rcases hone : one (l.drop i) with ⟨_ | ⟨c, n⟩, m⟩
      · rw [hone] at h
        simp at h
      · rw [hone] at h
        simp only at h
        obtain ⟨hc, hn, t, hd⟩ := one_some (fun x hx => hb x (List.mem_of_mem_drop hx)) (by rw [List.head?_drop]; exact h34) hone
        have hlen := congrArg List.length hd
        rw [List.length_drop, List.length_append] at hlen
        refine unq_ok f l (i + n) (out ++ [c]) y k hb (bytes_app ho (fun x hx => by simp at hx; omega)) (by omega) ?_ h
        rw [List.take_add, hd, ht, hn, List.take_left]
        simp
theorem unquote_ok {l : List Nat} {y : List Nat} {k : Int} (hb : Bytes l) (h : unquoteN l 0 = (y, k, 0)) : ∃ k' : Nat, k = (k' : Int) ∧ 2 ≤ k' ∧ k' ≤ l.length ∧ l.take k' = quoteN y ∧ Bytes y := by
  unfold unquoteN at h
  rw [if_neg (by omega)] at h
  by_cases h34 : l[(0 : Int).toNat]? ≠ some 34
  · rw [if_pos h34] at h
    simp at h
  · rw [if_neg h34] at h
    have h0 : l[0]? = some 34 := by
      by_cases e : l[0]? = some 34
      · exact e
      · exact absurd e h34
    simp only [Prod.mk.injEq] at h
    obtain ⟨e1, e2, e3⟩ := h
    have hlt := (List.getElem?_eq_some_iff.1 h0).1
    have ht : l.take 1 = 34 :: ([] : List Nat).flatMap formN := by
      rw [show (1 : Nat) = 0 + 1 from rfl, List.take_succ_eq_append_getElem hlt, (List.getElem?_eq_some_iff.1 h0).2]
      rfl
    rcases hu : unq l (l.length + 1) ((0 : Int).toNat + 1) [] with ⟨a, b, c⟩
    rw [hu] at e1 e2 e3
    simp only at e1 e2 e3
    subst e1 e3
    obtain ⟨g1, g2, g3⟩ := unq_ok _ l 1 [] _ b hb bytes_nil (by omega) ht hu
    have hl := congrArg List.length g1
    rw [List.length_take, quote_len] at hl
    exact ⟨b, e2.symm, by omega, g2, g1, g3⟩
theorem unquote_quote (a m b : List Nat) (hm : Bytes m) : unquoteN (a ++ quoteN m ++ b) (a.length : Int) = (m, ((a.length + (quoteN m).length : Nat) : Int), 0) := by
  have e : a ++ quoteN m ++ b = a ++ (34 :: (m.flatMap formN ++ 34 :: b)) := by simp [quoteN]
  have hlen : (a ++ quoteN m ++ b).length = a.length + ((m.flatMap formN).length + 2) + b.length := by rw [List.length_append, List.length_append, quote_len]
  have h34 : (a ++ quoteN m ++ b)[((a.length : Nat) : Int).toNat]? = some 34 := by
    rw [Int.toNat_natCast, e, List.getElem?_append_right (Nat.le_refl _)]
    simp
  have hd : (a ++ quoteN m ++ b).drop (a.length + 1) = m.flatMap formN ++ 34 :: b := by
    rw [e, ← List.drop_drop, List.drop_left]
    rfl
  have hu := unq_quote m _ (a.length + 1) ((a ++ quoteN m ++ b).length + 1) [] b hm hd (by have := flat_ge m; omega)
  unfold unquoteN
  rw [if_neg (by omega), if_neg (by rw [h34]; simp), Int.toNat_natCast, hu, quote_len]
  simp only [List.nil_append, Prod.mk.injEq, true_and, and_true]
  omega
end Go.Proofs.YtffhogadgjnkkaaDoor
