/- A text in brackets is read as the text; what stands ahead of an error is an expression, or ends there. -/
import Derived.Test.YtlenenfgedgmhaaDoorBr1
import Derived.Test.YtlenenfgedgmhaaDoorSteps
import Derived.Test.YtlenenfgedgmhaaDoorMParse
namespace Go.Proofs.YtlenenfgedgmhaaDoor
set_option linter.unusedSimpArgs false
set_option linter.unusedVariables false

def openK (p : Int) : Tok := ⟨5, [40], 0, p⟩
def closeK (p : Int) : Tok := ⟨5, [41], 0, p⟩
theorem tok_open (t : List Nat) : tokR (40 :: t) = (some (5, [40], 0), 1) := by
  rw [tokR_step (by decide), stepP_mark (by decide) (by decide)]
  simp [markN, marksL, List.find?, List.isPrefixOf]
theorem tok_close (t : List Nat) : tokR (41 :: t) = (some (5, [41], 0), 1) := by
  rw [tokR_step (by decide), stepP_mark (by decide) (by decide)]
  simp [markN, marksL, List.find?, List.isPrefixOf]
theorem nb_cons {c : Nat} {t : List Nat} (h : ¬ (c = 32 ∨ c = 10)) : NoBlank (c :: t) := fun d hd => by injection hd with hd; subst hd; exact h
/-- a text in brackets has the brackets' tokens and its own -/
theorem run_brackets {s : List Nat} (hs : Bytes s) {T : List Tok} {i' : Nat} (h : Run s 0 T [] i') : ∃ i2 : Nat, Run (40 :: (s ++ [41])) 0 (openK 0 :: (T.map (Tok.shift 1) ++ [closeK (i2 : Int)])) [] (i2 + 1) := by
  obtain ⟨m, h1, h2, h3⟩ := h.place hs
  have hm : s.length ≤ m := by
    have := congrArg List.length h3
    rw [List.length_drop] at this
    simp at this
    omega
  have hc := h.ctx hs [41] (fun x hx => by simp at hx; omega) (.inr (.inr (.inr (.inr rfl))))
  rw [List.take_of_length_le (by omega)] at hc
  have hsft := hc.shift 1
  refine ⟨i' + 1, .tok (nb_cons (by decide)) (tok_open _) ?_⟩
  have hend : Run [41] (i' + 1) [closeK ((i' + 1 : Nat) : Int)] [] (i' + 1 + 1) := .tok (nb_cons (by decide)) (tok_close []) (.done _ _)
  exact hsft.trans hend
theorem shift_tok (d : Nat) (t : Tok) : (Tok.shift d t).kind = t.kind ∧ (Tok.shift d t).text = t.text ∧ (Tok.shift d t).num = t.num := ⟨rfl, rfl, rfl⟩
theorem within_brackets (T : List Tok) (i2 : Int) : Within T (openK 0 :: (T.map (Tok.shift 1) ++ [closeK i2])) 1 where
  tok := by
    intro j t hj
    refine ⟨Tok.shift 1 t, ?_, (shift_tok 1 t).1, (shift_tok 1 t).2.1, (shift_tok 1 t).2.2⟩
    rw [List.getElem?_cons_succ, List.getElem?_append_left (by rw [List.length_map]; exact (List.getElem?_eq_some_iff.1 hj).1), List.getElem?_map, hj]
    rfl
  past := by
    intro j hj
    have hj' : T.length ≤ j := List.getElem?_eq_none_iff.1 hj
    have key : ∀ s, s ≠ [41] → isT (openK 0 :: (T.map (Tok.shift 1) ++ [closeK i2])) (j + 1) s = false := by
      intro s hs
      unfold isT
      rw [List.getElem?_cons_succ, List.getElem?_append_right (by rw [List.length_map]; exact hj'), List.length_map]
      cases hk : ([closeK i2] : List Tok)[j - T.length]? with
      | none => rfl
      | some t =>
        have : t ∈ [closeK i2] := List.mem_iff_getElem?.2 ⟨_, hk⟩
        simp at this
        subst this
        show (decide (4 ≤ (closeK i2).kind) && decide ((closeK i2).text = s)) = false
        rw [decide_eq_false (p := (closeK i2).text = s) (fun e => hs (show [41] = s from e).symm), Bool.and_false]
    refine ⟨key _ (by decide), fun x hx => key _ ?_⟩
    have : ∀ m ∈ signsL, m.1 ≠ [41] := by decide
    exact this x hx
theorem sign_none {l : List Tok} {n j : Nat} (h : l[j]? = none) : signK l n j = 0 := by
  unfold signK
  have e : signsL.find? (fun x => decide (x.2.2 = n) && isT l j x.1) = none := by
    rw [List.find?_eq_none]
    intro x _
    rw [isT_none h, Bool.and_false]
    simp
  rw [e]
/-- from what stands by itself up to a whole expression, nothing behind it -/
theorem pL_up {l : List Tok} {f a j : Nat} {t : Tr} (hn : isT l a notT = false) (hp : pP l f a = .ok t j) (hj : l[j]? = none) (hf : 1 ≤ f) : pL l (f + 7) 1 a = .ok t j := by
  obtain ⟨g, rfl⟩ : ∃ g, f = g + 1 := ⟨f - 1, by omega⟩
  have r : ∀ k n, pR l (k + 1) n t j = .ok t j := fun k n => by rw [pR, if_pos (sign_none hj)]
  have q : ∀ k, pQ l (k + 1) t j = .ok t j := fun k => by rw [pQ, if_pos (sign_none hj)]
  have h7 : pL l (g + 1 + 1) 7 a = .ok t j := by rw [pL, if_neg (by decide), if_pos rfl, hp]; exact q g
  have h6 : pL l (g + 1 + 2) 6 a = .ok t j := by rw [pL, if_neg (by decide), if_neg (by decide), h7]; exact r _ _
  have h5 : pL l (g + 1 + 3) 5 a = .ok t j := by rw [pL, if_neg (by decide), if_neg (by decide), h6]; exact r _ _
  have h4 : pL l (g + 1 + 4) 4 a = .ok t j := by rw [pL, if_neg (by decide), if_neg (by decide), h5]; exact r _ _
  have h3 : pL l (g + 1 + 5) 3 a = .ok t j := by rw [pL, if_pos rfl, hn, if_neg (by simp), h4]
  have h2 : pL l (g + 1 + 6) 2 a = .ok t j := by rw [pL, if_neg (by decide), if_neg (by decide), h3]; exact r _ _
  rw [pL, if_neg (by decide), if_neg (by decide), h2]
  exact r _ _
/-- what is read as an expression is so in brackets -/
theorem parse_brackets {T : List Tok} {i2 : Int} {t : Tr} {j : Nat} (h : parseT T = .ok t j) : ∃ j', parseT (openK 0 :: (T.map (Tok.shift 1) ++ [closeK i2])) = .ok t j' := by
  obtain ⟨L, hL⟩ : ∃ L, openK 0 :: (T.map (Tok.shift 1) ++ [closeK i2]) = L := ⟨_, rfl⟩
  have hW := within_brackets T i2
  rw [hL] at hW ⊢
  have hlen : L.length = T.length + 2 := by rw [← hL]; simp
  unfold parseT at h
  cases hp : pL T (12 * T.length + 10) 1 0 with
  | no k => rw [hp] at h; cases h
  | out => rw [hp] at h; cases h
  | ok u k =>
    rw [hp] at h
    simp only [PR.bind] at h
    split at h
    · cases h
    · rename_i hk
      injection h with h1 h2
      subst h1 h2
      have hin := parse_told T
      rw [hp] at hin
      obtain ⟨_, hk2, _⟩ := hin
      have hkl : k = T.length := by omega
      subst hkl
      have hs := (p_shift hW (12 * T.length + 10) (12 * T.length + 25) (by omega)).1 1 0 u T.length hp
      have h0 : L[0]? = some (openK 0) := by rw [← hL]; rfl
      have hc : L[T.length + 1]? = some (closeK i2) := by rw [← hL, List.getElem?_cons_succ, List.getElem?_append_right (by simp)]; simp
      have hend : L[T.length + 2]? = none := List.getElem?_eq_none (by omega)
      have hpp : pP L (12 * T.length + 26) 0 = .ok u (T.length + 2) := by
        rw [pP_some _ h0, if_neg (by decide), if_neg (by decide), if_neg (by decide), if_pos (by decide)]
        unfold markR
        rw [if_neg (by decide), if_pos (by decide)]
        show (pL L (12 * T.length + 25) 1 (0 + 1)).bind _ = _
        rw [hs]
        show want L (T.length + 1) closeT (.ok u (T.length + 1 + 1)) = _
        unfold Go.Proofs.YtlenenfgedgmhaaDoor.want
        rw [if_pos (by unfold isT; rw [hc]; rfl)]
      have hup := pL_up (l := L) (f := 12 * T.length + 26) (a := 0) (by unfold isT; rw [h0]; rfl) hpp hend (by omega)
      refine ⟨T.length + 2, ?_⟩
      unfold parseT
      rw [show 12 * L.length + 10 = 12 * T.length + 26 + 7 + 1 by omega]
      have hself : Within L L 0 := ⟨fun j t hj => ⟨t, hj, rfl, rfl, rfl⟩, fun j hj => ⟨isT_none hj _, fun x _ => isT_none hj _⟩⟩
      have := (p_shift hself (12 * T.length + 26 + 7) (12 * T.length + 26 + 7 + 1) (by omega)).1 1 0 u (T.length + 2) hup
      rw [Nat.add_zero, Nat.add_zero] at this
      rw [this]
      show (if T.length + 2 < L.length then _ else _) = _
      rw [if_neg (by omega)]
end Go.Proofs.YtlenenfgedgmhaaDoor
