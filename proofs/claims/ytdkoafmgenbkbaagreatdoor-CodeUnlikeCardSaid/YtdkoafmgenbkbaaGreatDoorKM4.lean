/- - - - -/
import Derived.Test.YtdkoafmgenbkbaaGreatDoorKM1
import Derived.Test.YtdkoafmgenbkbaaGreatDoorKM3
import Derived.Test.YtdkoafmgenbkbaaGreatDoorKM2
set_option maxRecDepth 100000
set_option maxHeartbeats 32000000
set_option linter.unusedSimpArgs false
set_option linter.unusedVariables false
namespace Go.Proofs.YtdkoafmgenbkbaaGreatDoor
open Go.RowKit
theorem info_Ins : (Tryz.prog.info? 42).map (fun i => (i.zero, i.size, i.bytes)) = some (some (.agg #[.int .i64 0, .int .i64 0, .int .i64 0, .string ⟨#[]⟩]), 4, 40) := by kernel_rfl
theorem Ins.Is.one (x : List Value) (y : Ins) (hx : Ins.Is x y) : ∀ u ∈ x, u.oneCell' = true := by
  intro u hu
  rw [hx.1] at hu
  simp [Ins.cells] at hu
  rcases hu with rfl | rfl | rfl | rfl <;> rfl
end Go.Proofs.YtdkoafmgenbkbaaGreatDoor
namespace Go.Proofs.YtdkoafmgenbkbaaGreatDoor
def okNum (l : List Nat) : Prop := Digits l ∧ l ≠ [] ∧ (l.head? ≠ some 48 ∨ l.length = 1) ∧ val 0 l ≤ 9223372036854775807
instance (l : List Nat) : Decidable (okNum l) := inferInstanceAs (Decidable (_ ∧ _))
theorem isNumber_ok {l : List Nat} (h : okNum l) : isNumber l = some (val 0 l : Int) := by
  obtain ⟨h1, h2, h3, h4⟩ := h
  have hd := dec_val _ l rfl h2 h1 h3
  have hi := intN_show (v := (val 0 l : Int)) (by omega) (by omega)
  have hs : showN (val 0 l : Int) = l := by unfold showN; rw [if_neg (by omega), Int.toNat_natCast, hd]
  rw [hs] at hi
  unfold isNumber
  rw [hi]
  exact if_pos (by omega)
theorem ok_isNumber {l : List Nat} {v : Int} (h : isNumber l = some v) : okNum l := by
  unfold isNumber at h
  cases hi : intN l with
  | none => rw [hi] at h; cases h
  | some u =>
    rw [hi] at h
    simp only at h
    split at h
    · rename_i h0
      obtain ⟨_, h1, hs, _⟩ := intN_some hi
      have hl : dec u.toNat = l := by rw [← hs]; unfold showN; rw [if_neg (by omega)]
      refine ⟨hl ▸ dec_digits _, hl ▸ dec_ne _, ?_, ?_⟩
      · by_cases e : u.toNat = 0
        · right; rw [← hl, e, dec_small (by omega)]; rfl
        · left; rw [← hl]; exact dec_head _ e
      · rw [← hl, val_dec]; omega
    · cases h
theorem isNumber_iff (l : List Nat) : (isNumber l).isSome = decide (okNum l) := by
  by_cases h : okNum l
  · rw [isNumber_ok h]; simp [h]
  · cases hi : isNumber l with
    | none => simp [h]
    | some v => exact absurd (ok_isNumber hi) h
theorem val_snoc (p : List Nat) (c : Nat) : val 0 (p ++ [c]) = 10 * val 0 p + (c - 48) := by rw [val_app]; rfl
theorem numScan_spec : ∀ (r p : List Nat), (p = [] ∨ okNum p) → ∃ m, m ≤ r.length ∧ (∀ i, i < m → okNum (p ++ r.take (i + 1))) ∧ (m = r.length ∨ ¬ okNum (p ++ r.take (m + 1))) ∧ (numScan r p.length (val 0 p)).2.1 = p.length + m ∧ ((∃ c, r[m]? = some c ∧ furtherN c = true) → (numScan r p.length (val 0 p)).2.2 = false) ∧ ((¬ ∃ c, r[m]? = some c ∧ furtherN c = true) → (numScan r p.length (val 0 p)).2.2 = true ∧ (numScan r p.length (val 0 p)).1 = val 0 (p ++ r.take m))
  | [], p, hp => ⟨0, by simp, fun i hi => by omega, Or.inl rfl, rfl, fun ⟨c, h, _⟩ => by simp at h, fun _ => ⟨rfl, by simp [numScan]⟩⟩
  | c :: r, p, hp => by
    by_cases hd : 48 ≤ c ∧ c ≤ 57
    · by_cases hb : (0 < p.length ∧ val 0 p = 0) ∨ (9223372036854775807 - (c - 48)) / 10 < val 0 p
      · have hn : numScan (c :: r) p.length (val 0 p) = (0, p.length, false) := by simp only [numScan]; rw [if_pos hd, if_pos hb]
        have hf : furtherN c = true := by simp [furtherN]; omega
        refine ⟨0, by simp, fun i hi => by omega, Or.inr ?_, by rw [hn]; rfl, fun _ => by rw [hn], fun h => absurd ⟨c, rfl, hf⟩ h⟩
        rintro ⟨g1, g2, g3, g4⟩
        simp only [Nat.zero_add, List.take_succ_cons, List.take_zero] at g1 g2 g3 g4
        rw [val_snoc] at g4
        rcases hb with ⟨b1, b2⟩ | hb
        · rcases hp with rfl | hp
          · simp at b1
          · have hdv := dec_val _ p rfl hp.2.1 hp.1 hp.2.2.1
            rw [b2, dec_small (by omega)] at hdv
            rw [← hdv] at g3
            simp at g3
        · omega
      · have hn : numScan (c :: r) p.length (val 0 p) = numScan r (p ++ [c]).length (val 0 (p ++ [c])) := by
          rw [numScan, if_pos hd, if_neg hb, val_snoc, List.length_append]; rfl
        have hok : okNum (p ++ [c]) := by
          refine ⟨?_, by simp, ?_, by rw [val_snoc]; omega⟩
          · intro x hx
            rcases List.mem_append.1 hx with hx | hx
            · rcases hp with rfl | hp
              · simp at hx
              · exact hp.1 x hx
            · simp at hx; omega
          · rcases hp with rfl | hp
            · right; rfl
            · left
              cases p with
              | nil => exact absurd rfl hp.2.1
              | cons a p =>
                rw [List.cons_append, List.head?_cons]
                intro e
                injection e with e
                subst e
                rcases hp.2.2.1 with h | h
                · simp at h
                · have : p = [] := by simpa using h
                  subst this
                  exact hb (Or.inl ⟨by simp, rfl⟩)
        obtain ⟨m, k1, k2, k3, k4, k5, k6⟩ := numScan_spec r (p ++ [c]) (Or.inr hok)
        have e : ∀ i, p ++ (c :: r).take (i + 1) = (p ++ [c]) ++ r.take i := fun i => by rw [List.take_succ_cons, List.append_assoc]; rfl
        rw [hn]
        refine ⟨m + 1, by simp; exact k1, fun i hi => ?_, ?_, by rw [k4, List.length_append]; simp; omega, fun h => k5 (by simpa using h), fun h => ?_⟩
        · rw [e]
          rcases i with _ | i
          · simpa using hok
          · exact k2 i (by omega)
        · rw [e]
          rcases k3 with k3 | k3
          · left; rw [List.length_cons, k3]
          · exact Or.inr k3
        · rw [e]
          exact k6 (by simpa using h)
    · have hn : numScan (c :: r) p.length (val 0 p) = (val 0 p, p.length, !furtherN c) := by simp only [numScan]; rw [if_neg hd]
      rw [hn]
      refine ⟨0, by simp, fun i hi => by omega, Or.inr ?_, rfl, ?_, ?_⟩
      · rintro ⟨g1, _⟩
        have := g1 c (by simp)
        omega
      · rintro ⟨d, h, hf⟩
        simp at h
        subst h
        simp [hf]
      · intro h
        refine ⟨?_, by simp⟩
        cases hf : furtherN c with
        | false => rfl
        | true => exact absurd ⟨c, rfl, hf⟩ h
theorem step_digit {c : Nat} (h : 48 ≤ c ∧ c ≤ 57) (t : List Nat) : stepR (c :: t) = stepP (c :: t) := by
  obtain ⟨m, h1, h2, h3, h4, h5, h6⟩ := numScan_spec (c :: t) [] (Or.inl rfl)
  have hv : val 0 [] = 0 := rfl
  simp only [List.nil_append, List.length_nil, Nat.zero_add, hv] at h2 h3 h4 h5 h6
  have hb : ∀ j, beginsN ((c :: t).take (j + 1)) = decide (okNum ((c :: t).take (j + 1))) := fun j => by
    rw [List.take_succ_cons, begins_digit h, isNumber_iff]
  have hok1 : okNum [c] := ⟨fun x hx => by simp at hx; omega, by simp, Or.inr rfl, by simp [val]; omega⟩
  have hm : m ≠ 0 := by
    rintro rfl
    rcases h3 with h3 | h3
    · simp at h3
    · exact h3 hok1
  have hn : lenFrom (c :: t) (c :: t).length 0 = m := by
    refine lenFrom_eq h1 (fun j hj => by rw [hb]; exact decide_eq_true (h2 j hj)) ?_
    rcases h3 with h3 | h3
    · exact Or.inl h3
    · right; rw [hb]; exact decide_eq_false h3
  have hw : wholeN ((c :: t).take m) = some (1, [], (val 0 ((c :: t).take m) : Int)) := by
    obtain ⟨j, rfl⟩ : ∃ j, m = j + 1 := ⟨m - 1, by omega⟩
    unfold wholeN
    rw [isNumber_ok (h2 j (by omega))]
  unfold stepR
  rw [hn, hw]
  simp only [stepP]
  rw [if_pos h, h4]
  by_cases hx : ∃ d, (c :: t)[m]? = some d ∧ furtherN d = true
  · rw [if_pos ⟨by decide, hx⟩, h5 hx]; rfl
  · rw [if_neg (fun h => hx h.2), (h6 hx).1, (h6 hx).2]; rfl
theorem no_number {c : Nat} (h : ¬ (48 ≤ c ∧ c ≤ 57)) (t : List Nat) : isNumber (c :: t) = none := by
  cases hi : isNumber (c :: t) with
  | none => rfl
  | some v => exact absurd ((ok_isNumber hi).1 c (by simp)) h
theorem words_letter : wordsL.all (fun m => match m with | [] => false | a :: _ => letterN a) = true := by decide
theorem no_word {c : Nat} (h : letterN c = false) (t : List Nat) : c :: t ∉ wordsL := by
  intro hm
  have := List.all_eq_true.1 words_letter _ hm
  simp only at this
  rw [h] at this
  cases this
theorem begins_mark {c : Nat} (h1 : ¬ (48 ≤ c ∧ c ≤ 57)) (h2 : letterN c = false) (t : List Nat) : beginsN (c :: t) = marksL.any (fun m => (c :: t).isPrefixOf m) := by
  simp [beginsN, no_number h1, rightN, h2]
theorem whole_mark {c : Nat} (h1 : ¬ (48 ≤ c ∧ c ≤ 57)) (h2 : letterN c = false) (t : List Nat) : wholeN (c :: t) = if c :: t ∈ marksL then some (5, c :: t, 0) else none := by
  unfold wholeN
  rw [no_number h1]
  simp only
  rw [if_neg (no_word h2 t), if_neg (by simp [rightN, h2])]
theorem stepR_mark {r s : List Nat} {n : Nat} (hn : lenFrom r r.length 0 = n) (hw : wholeN (r.take n) = some (5, s, 0)) : stepR r = (some (5, s, 0), n) := by
  unfold stepR
  rw [hn, hw]
  simp only
  rw [if_neg (fun h => h.1 rfl)]
theorem stepR_none {r : List Nat} {n : Nat} (hn : lenFrom r r.length 0 = n) (hw : wholeN (r.take n) = none) : stepR r = (none, n) := by
  unfold stepR
  rw [hn, hw]
theorem whole_nil : wholeN [] = none := by decide
def firstsL : List Nat := [45, 33, 61, 60, 46, 35, 94, 63, 40, 41, 43, 42, 58]
theorem begins_one (c : Nat) : marksL.any (fun m => [c].isPrefixOf m) = decide (c ∈ firstsL) := by
  simp [marksL, firstsL, List.isPrefixOf]
  grind
theorem begins_two (c d : Nat) : marksL.any (fun m => [c, d].isPrefixOf m) = decide ((c = 45 ∧ d = 62) ∨ (c = 33 ∧ d = 33) ∨ (c = 33 ∧ d = 61) ∨ (c = 61 ∧ d = 61) ∨ (c = 60 ∧ d = 61)) := by
  simp [marksL, List.isPrefixOf]
  grind
theorem begins_three (c d e : Nat) (t : List Nat) : marksL.any (fun m => (c :: d :: e :: t).isPrefixOf m) = false := by
  simp [marksL, List.isPrefixOf]
theorem step_mark {c : Nat} (h1 : ¬ (48 ≤ c ∧ c ≤ 57)) (h2 : letterN c = false) (t : List Nat) : stepR (c :: t) = stepP (c :: t) := by
  have hb := begins_mark h1 h2
  have hw := whole_mark h1 h2
  have hP : stepP (c :: t) = (if (markN (c :: t)).1 = [] then (none, (markN (c :: t)).2) else (some (5, (markN (c :: t)).1, 0), (markN (c :: t)).2)) := by
    simp only [stepP]
    rw [if_neg h1, if_neg (by rw [h2]; simp)]
  rw [hP]
  by_cases hc : c ∈ firstsL
  · match t with
    | [] =>
      have hn : lenFrom [c] [c].length 0 = 1 := by
        refine lenFrom_eq (by simp) (fun j hj => ?_) (Or.inl rfl)
        obtain rfl : j = 0 := by omega
        show beginsN [c] = true
        rw [hb, begins_one]; exact decide_eq_true hc
      by_cases hm : [c] ∈ marksL
      · rw [stepR_mark hn (by show wholeN [c] = _; rw [hw, if_pos hm])]
        clear hn hP hw hb h2 h1
        simp only [firstsL, List.mem_cons, List.not_mem_nil, or_false] at hc
        rcases hc with rfl | rfl | rfl | rfl | rfl | rfl | rfl | rfl | rfl | rfl | rfl | rfl | rfl <;> first | rfl | (exact absurd hm (by decide))
      · rw [stepR_none hn (by show wholeN [c] = _; rw [hw, if_neg hm])]
        clear hn hP hw hb h2 h1
        simp only [firstsL, List.mem_cons, List.not_mem_nil, or_false] at hc
        rcases hc with rfl | rfl | rfl | rfl | rfl | rfl | rfl | rfl | rfl | rfl | rfl | rfl | rfl <;> first | rfl | (exact absurd (by decide) hm)
    | d :: u =>
      by_cases hd : (c = 45 ∧ d = 62) ∨ (c = 33 ∧ d = 33) ∨ (c = 33 ∧ d = 61) ∨ (c = 61 ∧ d = 61) ∨ (c = 60 ∧ d = 61)
      · have hn : lenFrom (c :: d :: u) (c :: d :: u).length 0 = 2 := by
          refine lenFrom_eq (by simp) (fun j hj => ?_) ?_
          · rcases j with _ | _ | j
            · show beginsN [c] = true
              rw [hb, begins_one]; exact decide_eq_true hc
            · show beginsN [c, d] = true
              rw [hb, begins_two]; exact decide_eq_true hd
            · omega
          · match u with
            | [] => exact Or.inl rfl
            | e :: u => right; show beginsN [c, d, e] = false; rw [hb, begins_three]
        have hm : [c, d] ∈ marksL := by rcases hd with ⟨rfl, rfl⟩ | ⟨rfl, rfl⟩ | ⟨rfl, rfl⟩ | ⟨rfl, rfl⟩ | ⟨rfl, rfl⟩ <;> decide
        rw [stepR_mark hn (by show wholeN [c, d] = _; rw [hw, if_pos hm])]
        rcases hd with ⟨rfl, rfl⟩ | ⟨rfl, rfl⟩ | ⟨rfl, rfl⟩ | ⟨rfl, rfl⟩ | ⟨rfl, rfl⟩ <;> simp [markN, marksL, List.find?, List.isPrefixOf]
      · have hn : lenFrom (c :: d :: u) (c :: d :: u).length 0 = 1 := by
          refine lenFrom_eq (by simp) (fun j hj => ?_) (Or.inr ?_)
          · obtain rfl : j = 0 := by omega
            show beginsN [c] = true
            rw [hb, begins_one]; exact decide_eq_true hc
          · show beginsN [c, d] = false
            rw [hb, begins_two]; exact decide_eq_false hd
        by_cases hm : [c] ∈ marksL
        · rw [stepR_mark hn (by show wholeN [c] = _; rw [hw, if_pos hm])]
          clear hn hP hw hb h2 h1
          simp only [firstsL, List.mem_cons, List.not_mem_nil, or_false] at hc
          rcases hc with rfl | rfl | rfl | rfl | rfl | rfl | rfl | rfl | rfl | rfl | rfl | rfl | rfl <;> first | (exact absurd hm (by decide)) | (simp at hd; simp [markN, marksL, List.find?, List.isPrefixOf]; done) | (simp at hd; simp [markN, marksL, List.find?, List.isPrefixOf]; grind)
        · rw [stepR_none hn (by show wholeN [c] = _; rw [hw, if_neg hm])]
          clear hn hP hw hb h2 h1
          simp only [firstsL, List.mem_cons, List.not_mem_nil, or_false] at hc
          rcases hc with rfl | rfl | rfl | rfl | rfl | rfl | rfl | rfl | rfl | rfl | rfl | rfl | rfl <;> first | (exact absurd (by decide) hm) | (simp at hd; simp [markN, marksL, List.find?, List.isPrefixOf]; done) | (simp at hd; simp [markN, marksL, List.find?, List.isPrefixOf]; grind)
  · have hn : lenFrom (c :: t) (c :: t).length 0 = 0 := by
      refine lenFrom_eq (Nat.zero_le _) (fun j hj => by omega) (Or.inr ?_)
      show beginsN [c] = false
      rw [hb, begins_one]; exact decide_eq_false hc
    rw [stepR_none hn (by exact whole_nil)]
    have hf : marksL.find? (fun m => m.isPrefixOf (c :: t)) = none := by
      simp [firstsL] at hc
      rw [List.find?_eq_none]
      intro m hm
      simp only [marksL, List.mem_cons, List.not_mem_nil, or_false] at hm
      rcases hm with rfl | rfl | rfl | rfl | rfl | rfl | rfl | rfl | rfl | rfl | rfl | rfl | rfl | rfl | rfl | rfl <;> simp [List.isPrefixOf] <;> omega
    have hm : markN (c :: t) = ([], 0) := by
      unfold markN
      rw [hf]
      simp [firstsL] at hc
      simp only
      rw [if_neg (by simp; omega)]
    rw [hm, if_pos rfl]
theorem step_same (r : List Nat) : stepR r = stepP r := by
  cases r with
  | nil => decide
  | cons c t =>
    by_cases h1 : 48 ≤ c ∧ c ≤ 57
    · exact step_digit h1 t
    · cases h2 : letterN c with
      | true => exact step_letter h2 t
      | false => exact step_mark h1 h2 t
end Go.Proofs.YtdkoafmgenbkbaaGreatDoor
namespace Go.Proofs.YtdkoafmgenbkbaaGreatDoor
theorem unq_some : ∀ (f i : Nat) (l o s : List Nat) (k : Nat), Bytes l → Bytes o → unq l f i o = (s, k, 0) → Bytes s ∧ i < k ∧ k ≤ l.length
  | 0, i, l, o, s, k, _, _, h => by simp [unq] at h
  | f + 1, i, l, o, s, k, hl, ho, h => by
    rw [unq] at h
    split at h
    · rename_i hi
      injection h with h1 h2
      injection h2 with h2 _
      subst h1 h2
      exact ⟨ho, by omega, (List.getElem?_eq_some_iff.1 hi).1⟩
    · rename_i hi
      split at h
      · rename_i c n m hone
        have hd : Bytes (l.drop i) := fun x hx => hl x (List.mem_of_mem_drop hx)
        obtain ⟨c1, c2, _⟩ := one_some hd (by rw [List.head?_drop]; exact hi) hone
        have := (form_len c).1
        obtain ⟨a1, a2, a3⟩ := unq_some f (i + n) l (o ++ [c]) s k hl (bytes_app ho (fun x hx => by simp at hx; omega)) h
        exact ⟨a1, by omega, a3⟩
      · simp at h
theorem unq_err8 : ∀ (f i : Nat) (l o s : List Nat) (k e : Nat), unq l f i o = (s, k, e) → e ≠ 0 → e = 10
  | 0, i, l, o, s, k, e, h, _ => by simp [unq] at h; omega
  | f + 1, i, l, o, s, k, e, h, he => by
    rw [unq] at h
    split at h
    · simp at h; omega
    · split at h
      · exact unq_err8 f _ l _ s k e h he
      · simp at h; omega
def quoteAt (l : List Nat) (i : Nat) : List Nat × Nat × Nat := unq l (l.length + 1) (i + 1) []
theorem unquote_at {l : List Nat} {i : Nat} (h : l[i]? = some 34) : unquoteN l i = ((quoteAt l i).1, ((quoteAt l i).2.1 : Int), (quoteAt l i).2.2) := by
  have := (List.getElem?_eq_some_iff.1 h).1
  unfold unquoteN quoteAt
  rw [if_neg (by omega), Int.toNat_natCast, if_neg (by rw [h]; simp)]
def scanT (l : List Nat) : Nat → Nat → List Tok → List Tok × Nat × Nat
  | 0, _, out => (out, 0, 0)
  | f + 1, i, out => match l[i]? with
    | none => (out, 0, 0)
    | some c =>
      if c = 32 ∨ c = 10 then scanT l f (i + 1) out
      else if c = 34 then (if (quoteAt l i).2.2 = 0 then scanT l f (quoteAt l i).2.1 (out ++ [⟨2, (quoteAt l i).1, 0, i⟩]) else ([], (quoteAt l i).2.1, 70))
      else match (stepP (l.drop i)).1 with
        | some (k, s, v) => scanT l f (i + (stepP (l.drop i)).2) (out ++ [⟨k, s, v, i⟩])
        | none => ([], i + (stepP (l.drop i)).2, 70)
def scanN (l : List Nat) : List Tok × Nat × Nat := if 4096 < l.length then ([], 0, 3) else scanT l (l.length + 1) 0 []
theorem scan_end {l : List Nat} {f i : Nat} {o : List Tok} {R : List Tok × Nat × Nat} (h : scanT l f i o = R) (hi : l.length ≤ i) : R = (o, 0, 0) := by
  cases f with
  | zero => exact h.symm
  | succ f => rw [scanT, List.getElem?_eq_none hi] at h; exact h.symm
theorem scan_blank {l : List Nat} {f i c : Nat} {o : List Tok} {R : List Tok × Nat × Nat} (h : scanT l f i o = R) (hf : 1 ≤ f) (hi : l[i]? = some c) (hc : c = 32 ∨ c = 10) : scanT l (f - 1) (i + 1) o = R := by
  obtain ⟨f, rfl⟩ : ∃ g, f = g + 1 := ⟨f - 1, by omega⟩
  rw [scanT, hi] at h
  simp only at h
  rw [if_pos hc] at h
  exact h
theorem scan_quote {l : List Nat} {f i k : Nat} {s : List Nat} {o : List Tok} {R : List Tok × Nat × Nat} (h : scanT l f i o = R) (hf : 1 ≤ f) (hi : l[i]? = some 34) (hq : quoteAt l i = (s, k, 0)) : scanT l (f - 1) k (o ++ [⟨2, s, 0, i⟩]) = R := by
  obtain ⟨f, rfl⟩ : ∃ g, f = g + 1 := ⟨f - 1, by omega⟩
  rw [scanT, hi] at h
  simp only at h
  rw [if_neg (by omega), if_pos trivial, hq, if_pos rfl] at h
  exact h
theorem scan_quote_no {l : List Nat} {f i k e : Nat} {s : List Nat} {o : List Tok} {R : List Tok × Nat × Nat} (h : scanT l f i o = R) (hf : 1 ≤ f) (hi : l[i]? = some 34) (hq : quoteAt l i = (s, k, e)) (he : e ≠ 0) : R = ([], k, 70) := by
  obtain ⟨f, rfl⟩ : ∃ g, f = g + 1 := ⟨f - 1, by omega⟩
  rw [scanT, hi] at h
  simp only at h
  rw [if_neg (by omega), if_pos trivial, hq, if_neg he] at h
  exact h.symm
theorem scan_step {l : List Nat} {f i c k n : Nat} {s : List Nat} {v : Int} {o : List Tok} {R : List Tok × Nat × Nat} (h : scanT l f i o = R) (hf : 1 ≤ f) (hi : l[i]? = some c) (hc : ¬ (c = 32 ∨ c = 10)) (hq : c ≠ 34) (hs : stepP (l.drop i) = (some (k, s, v), n)) : scanT l (f - 1) (i + n) (o ++ [⟨k, s, v, i⟩]) = R := by
  obtain ⟨f, rfl⟩ : ∃ g, f = g + 1 := ⟨f - 1, by omega⟩
  rw [scanT, hi] at h
  simp only at h
  rw [if_neg hc, if_neg hq, hs] at h
  exact h
theorem scan_step_no {l : List Nat} {f i c n : Nat} {o : List Tok} {R : List Tok × Nat × Nat} (h : scanT l f i o = R) (hf : 1 ≤ f) (hi : l[i]? = some c) (hc : ¬ (c = 32 ∨ c = 10)) (hq : c ≠ 34) (hs : stepP (l.drop i) = (none, n)) : R = ([], i + n, 70) := by
  obtain ⟨f, rfl⟩ : ∃ g, f = g + 1 := ⟨f - 1, by omega⟩
  rw [scanT, hi] at h
  simp only at h
  rw [if_neg hc, if_neg hq, hs] at h
  exact h.symm
theorem lenFrom_le (r : List Nat) : ∀ (f k : Nat), k ≤ r.length → lenFrom r f k ≤ r.length
  | 0, k, h => h
  | f + 1, k, h => by
    simp only [lenFrom]
    split
    · exact lenFrom_le r f (k + 1) (by omega)
    · exact h
theorem step_some {r : List Nat} {k n : Nat} {s : List Nat} {v : Int} (hr : Bytes r) (h : stepP r = (some (k, s, v), n)) : 1 ≤ n ∧ n ≤ r.length ∧ Bytes s ∧ k < 6 ∧ -9223372036854775808 ≤ v ∧ v ≤ 9223372036854775807 := by
  rw [← step_same] at h
  unfold stepR at h
  have hle := lenFrom_le r r.length 0 (Nat.zero_le _)
  generalize lenFrom r r.length 0 = m at h hle
  cases hw : wholeN (r.take m) with
  | none => rw [hw] at h; simp at h
  | some t =>
    obtain ⟨k', s', v'⟩ := t
    rw [hw] at h
    simp only at h
    split at h
    · simp at h
    · simp only [Prod.mk.injEq, Option.some.injEq] at h
      obtain ⟨⟨rfl, rfl, rfl⟩, rfl⟩ := h
      have h0 : m ≠ 0 := by
        rintro rfl
        rw [List.take_zero, whole_nil] at hw
        cases hw
      have hb : Bytes (r.take m) := fun x hx => hr x (List.mem_of_mem_take hx)
      refine ⟨by omega, hle, ?_⟩
      unfold wholeN at hw
      split at hw
      · rename_i u hu
        simp only [Option.some.injEq, Prod.mk.injEq] at hw
        obtain ⟨rfl, rfl, rfl⟩ := hw
        have hok := ok_isNumber hu
        rw [isNumber_ok hok] at hu
        injection hu with hu
        refine ⟨bytes_nil, by omega, ?_⟩
        have := hok.2.2.2
        omega
      · split at hw
        · simp only [Option.some.injEq, Prod.mk.injEq] at hw
          obtain ⟨rfl, rfl, rfl⟩ := hw
          exact ⟨hb, by omega, by omega⟩
        · split at hw
          · simp only [Option.some.injEq, Prod.mk.injEq] at hw
            obtain ⟨rfl, rfl, rfl⟩ := hw
            exact ⟨hb, by omega, by omega⟩
          · split at hw
            · simp only [Option.some.injEq, Prod.mk.injEq] at hw
              obtain ⟨rfl, rfl, rfl⟩ := hw
              exact ⟨hb, by omega, by omega⟩
            · cases hw
end Go.Proofs.YtdkoafmgenbkbaaGreatDoor
