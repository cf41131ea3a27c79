/- A tree's text is cut into the tree's tokens. -/
import Derived.Test.YtlenenfgedgmhaaDoorRt0
import Derived.Test.YtlenenfgedgmhaaDoorBr4
namespace Go.Proofs.YtlenenfgedgmhaaDoor
set_option linter.unusedSimpArgs false
set_option linter.unusedVariables false

/-- a token but for its place -/
abbrev AT := Int × List Nat × Int
def Tok.abs (t : Tok) : AT := (t.kind, t.text, t.num)
/-- a text is cut into tokens, wherever it stands, with that behind it -/
def Cuts (u : List Nat) (ks : List AT) (y : List Nat) : Prop := ∀ i, ∃ T i', Run (u ++ y) i T y i' ∧ T.map Tok.abs = ks
/-- no name and no number goes on there -/
def Stop (y : List Nat) : Prop := ∀ c, y.head? = some c → furtherN c = false
theorem Stop.cons {c : Nat} {y : List Nat} (h : furtherN c = false) : Stop (c :: y) := fun d hd => by injection hd with hd; subst hd; exact h
theorem Cuts.app {u v y : List Nat} {ks js : List AT} (h1 : Cuts u ks (v ++ y)) (h2 : Cuts v js y) : Cuts (u ++ v) (ks ++ js) y := fun i => by
  obtain ⟨T, i1, a1, a2⟩ := h1 i
  obtain ⟨S, i2, b1, b2⟩ := h2 i1
  exact ⟨T ++ S, i2, by rw [List.append_assoc]; exact a1.trans b1, by rw [List.map_append, a2, b2]⟩
theorem cuts_nil (y : List Nat) : Cuts [] [] y := fun i => ⟨[], i, .done _ _, rfl⟩
theorem cuts_blank (y : List Nat) : Cuts [32] [] y := fun i => ⟨[], i + 1, .blank (Or.inl rfl) (.done _ _), rfl⟩
theorem cuts_tok {u y s : List Nat} {k : Nat} {v : Int} (h : tokR (u ++ y) = (some (k, s, v), u.length)) (hb : NoBlank (u ++ y)) : Cuts u [((k : Int), s, v)] y := fun i =>
  ⟨_, i + u.length, .tok hb h (by rw [List.drop_left]; exact .done _ _), rfl⟩
theorem cuts_mark {m y : List Nat} (hm : m ∈ marksL) (h : markN (m ++ y) = (m, m.length)) : Cuts m [(5, m, 0)] y := by
  have hc : ∃ c t, m = c :: t ∧ ¬ (48 ≤ c ∧ c ≤ 57) ∧ ¬ letterN c = true ∧ c ≠ 34 ∧ ¬ (c = 32 ∨ c = 10) := by
    have : ∀ m ∈ marksL, m ≠ [] ∧ ∀ c ∈ m.head?, ¬ (48 ≤ c ∧ c ≤ 57) ∧ ¬ letterN c = true ∧ c ≠ 34 ∧ ¬ (c = 32 ∨ c = 10) := by decide
    have := this m hm
    cases m with
    | nil => exact absurd rfl this.1
    | cons c t => exact ⟨c, t, rfl, this.2 c rfl⟩
  obtain ⟨c, t, rfl, g1, g2, g3, g4⟩ := hc
  refine cuts_tok (k := 5) ?_ (nb_cons g4)
  rw [List.cons_append] at h ⊢
  rw [tokR_step g3, stepP_mark g1 g2, h, if_neg (by simp)]
theorem cuts_open (y : List Nat) : Cuts [40] [(5, [40], 0)] y := cuts_mark (by decide) rfl
theorem cuts_close (y : List Nat) : Cuts [41] [(5, [41], 0)] y := cuts_mark (by decide) rfl
theorem cuts_colon (y : List Nat) : Cuts [58] [(5, [58], 0)] y := cuts_mark (by decide) rfl
theorem cuts_minus {c : Nat} (h : 48 ≤ c ∧ c ≤ 57) (y : List Nat) : Cuts [45] [(5, [45], 0)] (c :: y) := by
  refine cuts_mark (by decide) ?_
  have : (62 == c) = false := by simp; omega
  simp [markN, marksL, List.find?, List.isPrefixOf, this]
theorem cuts_post {x : List Nat × Nat × Nat} (hx : x ∈ signsL) (h : x.2.2 = 7) (y : List Nat) : Cuts x.1 [(5, x.1, 0)] y := by
  have h1 : ∀ x ∈ signsL, x.2.2 = 7 → x.1 ∈ marksL := by decide
  refine cuts_mark (h1 x hx h) ?_
  simp only [signsL, List.mem_cons, List.not_mem_nil, or_false] at hx
  rcases hx with rfl | rfl | rfl | rfl | rfl | rfl | rfl | rfl | rfl | rfl | rfl | rfl | rfl | rfl | rfl
  all_goals first | rfl | exact absurd h (by decide)
theorem cuts_name {s y : List Nat} (h : rightN s = true) (hy : Stop y) : Cuts s [(if s ∈ wordsL then 4 else 3, s, 0)] y := by
  obtain ⟨c, t, rfl, h1, h2, h3⟩ := right_parts h
  have hl := letter_cases h1
  have hrun := tw_app (p := furtherN) (c :: t) y h2 hy
  have hk : tokR (c :: t ++ y) = (some (if (c :: t) ∈ wordsL then 4 else 3, c :: t, 0), (c :: t).length) := by
    rw [List.cons_append] at hrun ⊢
    rw [tokR_step (by omega), stepP_letter h1, hrun, if_pos h3]
  have hnb : NoBlank (c :: t ++ y) := nb_cons (by omega)
  split
  · rename_i hw
    rw [if_pos hw] at hk
    exact cuts_tok hk hnb
  · rename_i hw
    rw [if_neg hw] at hk
    exact cuts_tok hk hnb
theorem cuts_plain {s y : List Nat} (h : plainN s = true) (hy : Stop y) : Cuts s [(3, s, 0)] y := by
  unfold plainN at h
  rw [Bool.and_eq_true] at h
  have := cuts_name h.1 hy
  rw [if_neg (by simpa using h.2)] at this
  exact this
theorem cuts_word {s y : List Nat} (h : s ∈ wordsL) (hy : Stop y) : Cuts s [(4, s, 0)] y := by
  have := cuts_name (word_right h) hy
  rw [if_pos h] at this
  exact this
theorem cuts_quote {s y : List Nat} (hb : Bytes s) (hy : Bytes y) : Cuts (quoteN s) [(2, s, 0)] y := by
  refine cuts_tok (k := 2) ?_ ?_
  · unfold quoteN
    rw [List.cons_append, List.cons_append, tokR_quote, List.append_assoc]
    have := qR_of_form s y hb hy
    rw [List.singleton_append, this]
    simp
  · unfold quoteN
    exact nb_cons (by omega)
theorem num_digits' : ∀ (D : List Nat) (j n : Nat) (y : List Nat), Digits D → val n D ≤ 9223372036854775807 → (0 < j → n = 0 → D = []) → (j = 0 → n = 0 ∧ (D.head? = some 48 → D.length = 1)) → Stop y → numScan (D ++ y) j n = (val n D, j + D.length, true)
  | [], j, n, y, _, _, _, _, hy => by
    rw [List.nil_append]
    cases y with
    | nil => rfl
    | cons a y =>
      have ha := hy a rfl
      rw [numScan, if_neg]
      · rw [ha]; rfl
      · intro h
        have : furtherN a = true := by simp [furtherN]; omega
        rw [this] at ha
        cases ha
  | c :: D, j, n, y, hD, hv, h1, h2, hy => by
    have hc := hD c (by simp)
    have hv' : val (10 * n + (c - 48)) D ≤ 9223372036854775807 := hv
    have hg := val_ge D (10 * n + (c - 48))
    rw [List.cons_append, numScan, if_pos hc, if_neg]
    · rw [num_digits' D (j + 1) (10 * n + (c - 48)) y (fun x hx => hD x (List.mem_cons_of_mem _ hx)) hv' ?_ (fun h => by omega) hy]
      · have e : j + 1 + D.length = j + (c :: D).length := by rw [List.length_cons]; omega
        rw [e]
        rfl
      · intro _ h0
        rcases Nat.eq_zero_or_pos j with rfl | hj
        · have := (h2 rfl).2
          simp only [List.head?_cons, List.length_cons] at this
          exact List.eq_nil_of_length_eq_zero (by have := this (by congr 1; omega); omega)
        · exfalso
          have hn : n = 0 := by omega
          have := h1 hj hn
          cases this
    · rintro (⟨hj, hn⟩ | hb)
      · have := h1 hj hn
        cases this
      · omega
theorem cuts_dec {u : Nat} {y : List Nat} (hu : u ≤ 9223372036854775807) (hy : Stop y) : Cuts (dec u) [(1, [], (u : Int))] y := by
  have hdg := dec_digits u
  have hne := dec_ne u
  have hnum := num_digits' (dec u) 0 0 y hdg (by rw [val_dec]; omega) (fun h => by omega) (fun _ => ⟨rfl, fun h => by
    by_cases h0 : u = 0
    · rw [h0, dec_small (by omega)]; rfl
    · exact absurd h (dec_head _ h0)⟩) hy
  cases hd : dec u with
  | nil => exact absurd hd hne
  | cons c t =>
    have hc : 48 ≤ c ∧ c ≤ 57 := hdg c (by rw [hd]; simp)
    rw [← hd]
    refine cuts_tok (k := 1) ?_ ?_
    · rw [hd] at hnum ⊢
      rw [List.cons_append] at hnum ⊢
      rw [tokR_step (by omega), stepP_digit hc, hnum, ← hd, val_dec]
      simp only [Nat.zero_add, if_true]
    · rw [hd]
      exact nb_cons (by omega)
theorem cuts_num {n : Int} {y : List Nat} (h1 : -9223372036854775808 ≤ n) (h2 : n ≤ 9223372036854775807) (h0 : n ≠ -9223372036854775808) (hy : Stop y) : Cuts (showN n) (if n < 0 then [(5, [45], 0), (1, [], -n)] else [(1, [], n)]) y := by
  unfold showN
  split
  · have e : ((n.natAbs : Nat) : Int) = -n := by omega
    have hd := cuts_dec (u := n.natAbs) (by omega) hy
    rw [e] at hd
    cases hdd : dec n.natAbs with
    | nil => exact absurd hdd (dec_ne _)
    | cons c t =>
      have hc : 48 ≤ c ∧ c ≤ 57 := dec_digits _ c (by rw [hdd]; simp)
      rw [hdd] at hd
      have hm := cuts_minus hc (t ++ y)
      rw [← List.cons_append] at hm
      exact hm.app hd
  · have e : ((n.toNat : Nat) : Int) = n := by omega
    have hd := cuts_dec (u := n.toNat) (by omega) hy
    rw [e] at hd
    exact hd
/-- a node's tokens, by its parts' -/
def bodyK (k : Int) (s : List Nat) (n : Int) (c : Nat) (g : Nat → Nat → List AT) : List AT :=
  if k = 1 then (if n < 0 then [(5, [45], 0), (1, [], -n)] else [(1, [], n)])
  else if k = 2 then [(2, s, 0)]
  else if k = 7 then [(3, s, 0)]
  else if levelN k = 7 then g 0 7 ++ ([(5, markT k, 0)] ++ (if k = 11 then [] else [(3, s, 0)]))
  else if k = 29 then [(4, notT, 0)] ++ g 0 3
  else if levelN k < 7 then g 0 (if levelN k = 4 then 5 else levelN k) ++ [(if levelN k < 3 then 4 else 5, markT k, 0)] ++ g 1 (levelN k + 1)
  else if k = 30 then [(4, [105, 102], 0)] ++ g 0 0 ++ [(4, thenT, 0)] ++ g 1 0 ++ [(4, elseT, 0)] ++ g 2 0 ++ [(4, endT, 0)]
  else if 31 ≤ k then [(4, wordT k, 0), (3, s, 0), (4, inT, 0)] ++ g 0 0 ++ [(5, colonT, 0)] ++ g 1 0 ++ [(4, endT, 0)]
  else if c = 1 then [(4, wordT k, 0), (5, [40], 0)] ++ g 0 0 ++ [(5, [41], 0)]
  else [(4, wordT k, 0)]
def kidK (gs : List (Nat → List AT)) (i t : Nat) : List AT := match gs[i]? with
  | some g => g t
  | none => []
mutual
/-- a tree's tokens -/
def tkT : Tr → Nat → List AT
  | .node k s n ks => fun t => if levelN (k : Int) < t then [(5, [40], 0)] ++ bodyK k s n ks.length (kidK (tkTL ks)) ++ [(5, [41], 0)] else bodyK k s n ks.length (kidK (tkTL ks))
def tkTL : List Tr → List (Nat → List AT)
  | [] => []
  | t :: ts => tkT t :: tkTL ts
end
/-- what the kinds of the shapes say -/
theorem binF : ∀ x ∈ signsL, x.2.2 < 7 → ((x.2.1 : Nat) : Int) ≠ 1 ∧ ((x.2.1 : Nat) : Int) ≠ 2 ∧ ((x.2.1 : Nat) : Int) ≠ 7 ∧ ((x.2.1 : Nat) : Int) ≠ 29 ∧ levelN ((x.2.1 : Nat) : Int) = x.2.2 ∧ markT ((x.2.1 : Nat) : Int) = x.1 ∧ (x.2.2 < 3 → x.1 ∈ wordsL) ∧ (¬ x.2.2 < 3 → x.1 ∈ marksL ∧ markN (x.1 ++ []) = (x.1, x.1.length)) ∧ 1 ≤ x.2.2 ∧ x.2.2 ≠ 3 := by decide
theorem postF : ∀ x ∈ signsL, x.2.2 = 7 → ((x.2.1 : Nat) : Int) ≠ 1 ∧ ((x.2.1 : Nat) : Int) ≠ 2 ∧ ((x.2.1 : Nat) : Int) ≠ 7 ∧ levelN ((x.2.1 : Nat) : Int) = 7 ∧ markT ((x.2.1 : Nat) : Int) = x.1 ∧ x.1.head? ≠ none ∧ ∀ c ∈ x.1.head?, furtherN c = false := by decide
theorem onesF : ∀ y ∈ onesL, ((y.2.1 : Nat) : Int) ≠ 1 ∧ ((y.2.1 : Nat) : Int) ≠ 2 ∧ ((y.2.1 : Nat) : Int) ≠ 7 ∧ ((y.2.1 : Nat) : Int) ≠ 29 ∧ levelN ((y.2.1 : Nat) : Int) = 8 ∧ wordT ((y.2.1 : Nat) : Int) = y.1 ∧ y.1 ∈ wordsL ∧ (y.2.2 ≠ 3 → ((y.2.1 : Nat) : Int) ≠ 30) ∧ (y.2.2 = 2 → 31 ≤ ((y.2.1 : Nat) : Int)) ∧ (y.2.2 < 2 → ¬ 31 ≤ ((y.2.1 : Nat) : Int)) ∧ oneN y.1 = y.2 ∧ y.2.1 ≠ 0 := by decide
section
variable {k : Nat} {s : List Nat} {n : Int} {c : Nat} {G : Nat → Nat → List Nat} {K : Nat → Nat → List AT}
theorem body_bin {x : List Nat × Nat × Nat} (hx : x ∈ signsL) (h : x.2.2 < 7) : bodyG ((x.2.1 : Nat) : Int) s n c G = G 0 (if x.2.2 = 4 then 5 else x.2.2) ++ (([32] ++ x.1) ++ [32]) ++ G 1 (x.2.2 + 1) ∧ bodyK ((x.2.1 : Nat) : Int) s n c K = K 0 (if x.2.2 = 4 then 5 else x.2.2) ++ [(if x.2.2 < 3 then 4 else 5, x.1, 0)] ++ K 1 (x.2.2 + 1) := by
  obtain ⟨e1, e2, e7, e29, hl, hm, _, _, h1, h3⟩ := binF x hx h
  constructor
  · unfold bodyG
    rw [if_neg e1, if_neg e2, if_neg e7, hl, if_neg (by omega), if_neg e29, if_pos h, hm]
  · unfold bodyK
    rw [if_neg e1, if_neg e2, if_neg e7, hl, if_neg (by omega), if_neg e29, if_pos h, hm]
theorem body_post {x : List Nat × Nat × Nat} (hx : x ∈ signsL) (h : x.2.2 = 7) : bodyG ((x.2.1 : Nat) : Int) s n c G = G 0 7 ++ (x.1 ++ s) ∧ bodyK ((x.2.1 : Nat) : Int) s n c K = K 0 7 ++ ([(5, x.1, 0)] ++ (if ((x.2.1 : Nat) : Int) = 11 then [] else [(3, s, 0)])) := by
  obtain ⟨e1, e2, e7, hl, hm, _⟩ := postF x hx h
  constructor
  · unfold bodyG
    rw [if_neg e1, if_neg e2, if_neg e7, hl, if_pos rfl, hm]
  · unfold bodyK
    rw [if_neg e1, if_neg e2, if_neg e7, hl, if_pos rfl, hm]
theorem body_loop {y : List Nat × Nat × Nat} (hy : y ∈ onesL) (h : y.2.2 = 2) : bodyG ((y.2.1 : Nat) : Int) s n c G = (((y.1 ++ [32]) ++ s) ++ [32, 105, 110, 32]) ++ G 0 0 ++ [58, 32] ++ G 1 0 ++ [32, 101, 110, 100] ∧ bodyK ((y.2.1 : Nat) : Int) s n c K = [(4, y.1, 0), (3, s, 0), (4, inT, 0)] ++ K 0 0 ++ [(5, colonT, 0)] ++ K 1 0 ++ [(4, endT, 0)] := by
  obtain ⟨e1, e2, e7, e29, hl, hm, hw, h30, h31, _⟩ := onesF y hy
  constructor
  · unfold bodyG
    rw [if_neg e1, if_neg e2, if_neg e7, hl, if_neg (by omega), if_neg e29, if_neg (by omega), if_neg (h30 (by omega)), if_pos (h31 h), hm]
  · unfold bodyK
    rw [if_neg e1, if_neg e2, if_neg e7, hl, if_neg (by omega), if_neg e29, if_neg (by omega), if_neg (h30 (by omega)), if_pos (h31 h), hm]
theorem body_one {y : List Nat × Nat × Nat} (hy : y ∈ onesL) (h : y.2.2 = 1) : bodyG ((y.2.1 : Nat) : Int) s n 1 G = (y.1 ++ [40]) ++ G 0 0 ++ [41] ∧ bodyK ((y.2.1 : Nat) : Int) s n 1 K = [(4, y.1, 0), (5, [40], 0)] ++ K 0 0 ++ [(5, [41], 0)] := by
  obtain ⟨e1, e2, e7, e29, hl, hm, hw, h30, _, h31, _⟩ := onesF y hy
  constructor
  · unfold bodyG
    rw [if_neg e1, if_neg e2, if_neg e7, hl, if_neg (by omega), if_neg e29, if_neg (by omega), if_neg (h30 (by omega)), if_neg (h31 (by omega)), if_pos rfl, hm]
  · unfold bodyK
    rw [if_neg e1, if_neg e2, if_neg e7, hl, if_neg (by omega), if_neg e29, if_neg (by omega), if_neg (h30 (by omega)), if_neg (h31 (by omega)), if_pos rfl, hm]
theorem body_zero {y : List Nat × Nat × Nat} (hy : y ∈ onesL) (h : y.2.2 = 0) : bodyG ((y.2.1 : Nat) : Int) s n 0 G = y.1 ∧ bodyK ((y.2.1 : Nat) : Int) s n 0 K = [(4, y.1, 0)] := by
  obtain ⟨e1, e2, e7, e29, hl, hm, hw, h30, _, h31, _⟩ := onesF y hy
  constructor
  · unfold bodyG
    rw [if_neg e1, if_neg e2, if_neg e7, hl, if_neg (by omega), if_neg e29, if_neg (by omega), if_neg (h30 (by omega)), if_neg (h31 (by omega)), if_neg (by omega), hm]
  · unfold bodyK
    rw [if_neg e1, if_neg e2, if_neg e7, hl, if_neg (by omega), if_neg e29, if_neg (by omega), if_neg (h30 (by omega)), if_neg (h31 (by omega)), if_neg (by omega), hm]
theorem body_not : bodyG ((29 : Nat) : Int) s n c G = [110, 111, 116, 32] ++ G 0 3 ∧ bodyK ((29 : Nat) : Int) s n c K = [(4, notT, 0)] ++ K 0 3 := ⟨rfl, rfl⟩
theorem body_if : bodyG ((30 : Nat) : Int) s n c G = [105, 102, 32] ++ G 0 0 ++ [32, 116, 104, 101, 110, 32] ++ G 1 0 ++ [32, 101, 108, 115, 101, 32] ++ G 2 0 ++ [32, 101, 110, 100] ∧ bodyK ((30 : Nat) : Int) s n c K = [(4, [105, 102], 0)] ++ K 0 0 ++ [(4, thenT, 0)] ++ K 1 0 ++ [(4, elseT, 0)] ++ K 2 0 ++ [(4, endT, 0)] := ⟨rfl, rfl⟩
theorem parent_mem : (([94], 11, 7) : List Nat × Nat × Nat) ∈ signsL := by decide
theorem words_bytes {s : List Nat} (h : s ∈ wordsL) : Bytes s := by
  have : ∀ s ∈ wordsL, ∀ c ∈ s, c < 256 := by decide
  exact this s h
theorem marks_bytes {s : List Nat} (h : s ∈ marksL) : Bytes s := by
  have : ∀ s ∈ marksL, ∀ c ∈ s, c < 256 := by decide
  exact this s h
theorem bytes_lit {s : List Nat} (h : s.all (fun c => decide (c < 256)) = true) : Bytes s := fun c hc => by
  rw [List.all_eq_true] at h
  exact of_decide_eq_true (h c hc)
theorem sign_bytes {x : List Nat × Nat × Nat} (hx : x ∈ signsL) : Bytes x.1 := by
  have : ∀ x ∈ signsL, ∀ c ∈ x.1, c < 256 := by decide
  exact this x hx
theorem showN_bytes (n : Int) : Bytes (showN n) := by
  unfold showN
  split
  · intro x hx
    rcases List.mem_cons.1 hx with h | h
    · omega
    · have := dec_digits _ x h; omega
  · intro x hx; have := dec_digits _ x hx; omega
/-- a node's text is of bytes -/
theorem body_bytes {ks : List Tr} (hn : Node k s n ks) (hG : ∀ i m, Bytes (G i m)) : Bytes (bodyG k s n ks.length G) := by
  obtain ⟨hsh, hb, _, _⟩ := hn
  cases hsh with
  | int h => exact showN_bytes n
  | text h => exact quote_bytes hb
  | name h => exact hb
  | zero hy h => exact (congrArg Bytes (body_zero (s := []) (n := 0) (G := G) (K := fun _ _ => []) hy h).1).mpr (words_bytes (onesF _ hy).2.2.2.2.2.2.1)
  | post hx h h11 hp => exact (congrArg Bytes (body_post (n := 0) (c := 1) (G := G) (K := fun _ _ => []) hx h).1).mpr (bytes_app (hG _ _) (bytes_app (sign_bytes hx) hb))
  | parent => exact (congrArg Bytes (body_post (s := []) (n := 0) (c := 1) (G := G) (K := fun _ _ => []) parent_mem rfl).1).mpr (bytes_app (hG _ _) (bytes_app (bytes_lit rfl) hb))
  | not_ => exact (congrArg Bytes (body_not (s := []) (n := 0) (c := 1) (G := G) (K := fun _ _ => [])).1).mpr (bytes_app (bytes_lit rfl) (hG _ _))
  | one hy h => exact (congrArg Bytes (body_one (s := []) (n := 0) (G := G) (K := fun _ _ => []) hy h).1).mpr (bytes_app (bytes_app (bytes_app (words_bytes (onesF _ hy).2.2.2.2.2.2.1) (bytes_lit rfl)) (hG _ _)) (bytes_lit rfl))
  | bin hx h => exact (congrArg Bytes (body_bin (s := []) (n := 0) (c := 2) (G := G) (K := fun _ _ => []) hx h).1).mpr (bytes_app (bytes_app (hG _ _) (bytes_app (bytes_app (bytes_lit rfl) (sign_bytes hx)) (bytes_lit rfl))) (hG _ _))
  | iff => exact (congrArg Bytes (body_if (s := []) (n := 0) (c := 3) (G := G) (K := fun _ _ => [])).1).mpr (bytes_app (bytes_app (bytes_app (bytes_app (bytes_app (bytes_app (bytes_lit rfl) (hG _ _)) (bytes_lit rfl)) (hG _ _)) (bytes_lit rfl)) (hG _ _)) (bytes_lit rfl))
  | loop hy h hp => exact (congrArg Bytes (body_loop (n := 0) (c := 2) (G := G) (K := fun _ _ => []) hy h).1).mpr (bytes_app (bytes_app (bytes_app (bytes_app (bytes_app (bytes_app (bytes_app (words_bytes (onesF _ hy).2.2.2.2.2.2.1) (bytes_lit rfl)) hb) (bytes_lit rfl)) (hG _ _)) (bytes_lit rfl)) (hG _ _)) (bytes_lit rfl))
theorem b32 : furtherN 32 = false := rfl
theorem b41 : furtherN 41 = false := rfl
theorem b40 : furtherN 40 = false := rfl
theorem b58 : furtherN 58 = false := rfl
theorem stop_blank (y : List Nat) : Stop ([32] ++ y) := Stop.cons b32
/-- a word between blanks -/
theorem cuts_wordB {s : List Nat} (h : s ∈ wordsL) (y : List Nat) : Cuts (([32] ++ s) ++ [32]) [(4, s, 0)] y := by
  have h1 := (cuts_blank (s ++ ([32] ++ y))).app (cuts_word h (stop_blank y))
  have h2 := Cuts.app (y := y) (u := [32] ++ s) (v := [32]) h1 (cuts_blank y)
  simpa using h2
/-- a word ahead of a blank -/
theorem cuts_wordA {s : List Nat} (h : s ∈ wordsL) (y : List Nat) : Cuts (s ++ [32]) [(4, s, 0)] y := by
  have h2 := Cuts.app (y := y) (u := s) (v := [32]) (cuts_word h (stop_blank y)) (cuts_blank y)
  simpa using h2
/-- a word behind a blank -/
theorem cuts_wordZ {s y : List Nat} (h : s ∈ wordsL) (hy : Stop y) : Cuts ([32] ++ s) [(4, s, 0)] y := by
  have h2 := Cuts.app (y := y) (u := [32]) (v := s) (cuts_blank _) (cuts_word h hy)
  simpa using h2
/-- a node's text is cut into its tokens -/
theorem body_cuts {ks : List Tr} (hn : Node k s n ks) (hG : ∀ i m, Bytes (G i m)) (hC : ∀ i, i < ks.length → ∀ m, m ≤ 8 → ∀ y, Bytes y → Stop y → Cuts (G i m) (K i m) y) (y : List Nat) (hy : Bytes y) (hs : Stop y) : Cuts (bodyG k s n ks.length G) (bodyK k s n ks.length K) y := by
  obtain ⟨hsh, hb, n1, n2⟩ := hn
  cases hsh with
  | int h => exact cuts_num n1 n2 h hs
  | text h => exact cuts_quote hb hy
  | name h => exact cuts_plain h hs
  | zero hw h =>
    obtain ⟨e1, e2⟩ := body_zero (s := []) (n := 0) (G := G) (K := K) hw h
    rw [List.length_nil, e1, e2]
    exact cuts_word (onesF _ hw).2.2.2.2.2.2.1 hs
  | @post x s a hx h h11 hp =>
    obtain ⟨e1, e2⟩ := body_post (s := s) (n := 0) (c := 1) (G := G) (K := K) hx h
    obtain ⟨_, _, _, _, _, f1, f2⟩ := postF x hx h
    rw [List.length_singleton, e1, e2, if_neg (by omega)]
    refine Cuts.app (hC 0 (by simp) 7 (by omega) _ (bytes_app (bytes_app (sign_bytes hx) hb) hy) ?_) ((cuts_post hx h _).app (cuts_plain hp hs))
    intro c hc
    obtain ⟨xt, xk, xl⟩ := x
    cases xt with
    | nil => exact absurd rfl f1
    | cons d t => exact f2 c hc
  | parent =>
    have e1 : bodyG ((11 : Nat) : Int) [] 0 1 G = G 0 7 ++ ([94] ++ []) := (body_post (s := []) (n := 0) (c := 1) (G := G) (K := K) parent_mem rfl).1
    have e2 : bodyK ((11 : Nat) : Int) [] 0 1 K = K 0 7 ++ ([(5, [94], 0)] ++ []) := (body_post (s := []) (n := 0) (c := 1) (G := G) (K := K) parent_mem rfl).2
    rw [List.length_singleton, e1, e2]
    refine Cuts.app (hC 0 (by simp) 7 (by omega) _ (bytes_app (bytes_app (bytes_lit rfl) hb) hy) (Stop.cons rfl)) ((cuts_post parent_mem rfl _).app (cuts_nil _))
  | not_ =>
    obtain ⟨e1, e2⟩ := body_not (s := []) (n := 0) (c := 1) (G := G) (K := K)
    rw [List.length_singleton, e1, e2]
    exact Cuts.app (cuts_wordA (s := notT) (by decide) _) (hC 0 (by simp) 3 (by omega) y hy hs)
  | @one w a hw h =>
    obtain ⟨e1, e2⟩ := body_one (s := []) (n := 0) (G := G) (K := K) hw h
    rw [List.length_singleton, e1, e2]
    refine Cuts.app (Cuts.app ?_ (hC 0 (by simp) 0 (by omega) _ (bytes_app (bytes_lit rfl) hy) (Stop.cons b41))) (cuts_close y)
    have := Cuts.app (y := G 0 0 ++ ([41] ++ y)) (cuts_word (onesF _ hw).2.2.2.2.2.2.1 (y := [40] ++ (G 0 0 ++ ([41] ++ y))) (Stop.cons b40)) (cuts_open _)
    exact this
  | @bin x a b hx h =>
    obtain ⟨e1, e2⟩ := body_bin (s := []) (n := 0) (c := 2) (G := G) (K := K) hx h
    obtain ⟨_, _, _, _, _, _, f1, f2, f3, _⟩ := binF x hx h
    have l2 : [a, b].length = 2 := rfl
    rw [l2, e1, e2]
    refine Cuts.app (Cuts.app (hC 0 (by simp) _ (by split <;> omega) _ ?_ ?_) ?_) (hC 1 (by simp) _ (by omega) y hy hs)
    · exact bytes_app (bytes_app (bytes_app (bytes_lit rfl) (sign_bytes hx)) (bytes_lit rfl)) (bytes_app (hG _ _) hy)
    · exact Stop.cons b32
    · split
      · rename_i h3
        exact cuts_wordB (f1 h3) _
      · rename_i h3
        obtain ⟨g1, g2⟩ := f2 h3
        have h1 := (cuts_blank (x.1 ++ ([32] ++ (G 1 (x.2.2 + 1) ++ y)))).app (cuts_mark g1 (mark_local g2 g1 (Next.of_blank (y := [32] ++ (G 1 (x.2.2 + 1) ++ y)) (Or.inr (Or.inl rfl)))))
        have h2 := Cuts.app (u := [32] ++ x.1) (v := [32]) h1 (cuts_blank _)
        simpa using h2
  | @iff a b c =>
    obtain ⟨e1, e2⟩ := body_if (s := []) (n := 0) (c := 3) (G := G) (K := K)
    have l3 : [a, b, c].length = 3 := rfl
    rw [l3, e1, e2]
    have kid : ∀ i, i < 3 → ∀ z, Bytes z → Cuts (G i 0) (K i 0) (32 :: z) := fun i hi z hz => hC i hi 0 (by omega) _ (bytes_cons (by omega) hz) (Stop.cons b32)
    have q4 : Cuts [32, 101, 110, 100] [(4, endT, 0)] y := cuts_wordZ (s := endT) (by decide) hs
    have b4 : Bytes ([101, 110, 100] ++ y) := bytes_app (bytes_lit rfl) hy
    have b3 : Bytes (G 2 0 ++ ([32, 101, 110, 100] ++ y)) := bytes_app (hG _ _) (bytes_app (bytes_lit rfl) hy)
    have b2 : Bytes (G 1 0 ++ ([32, 101, 108, 115, 101, 32] ++ (G 2 0 ++ ([32, 101, 110, 100] ++ y)))) := bytes_app (hG _ _) (bytes_app (bytes_lit rfl) b3)
    have p1 := cuts_wordA (s := [105, 102]) (by decide) (G 0 0 ++ ([32, 116, 104, 101, 110, 32] ++ (G 1 0 ++ ([32, 101, 108, 115, 101, 32] ++ (G 2 0 ++ ([32, 101, 110, 100] ++ y))))))
    have p2 := kid 0 (by omega) ([116, 104, 101, 110, 32] ++ (G 1 0 ++ ([32, 101, 108, 115, 101, 32] ++ (G 2 0 ++ ([32, 101, 110, 100] ++ y))))) (bytes_app (bytes_lit rfl) b2)
    have p3 := cuts_wordB (s := thenT) (by decide) (G 1 0 ++ ([32, 101, 108, 115, 101, 32] ++ (G 2 0 ++ ([32, 101, 110, 100] ++ y))))
    have p4 := kid 1 (by omega) ([101, 108, 115, 101, 32] ++ (G 2 0 ++ ([32, 101, 110, 100] ++ y))) (bytes_app (bytes_lit rfl) b3)
    have p5 := cuts_wordB (s := elseT) (by decide) (G 2 0 ++ ([32, 101, 110, 100] ++ y))
    have p6 := kid 2 (by omega) ([101, 110, 100] ++ y) b4
    exact ((((((Cuts.app (u := [105, 102, 32]) p1 p2).app p3).app p4).app p5).app p6).app q4)
  | @loop w s a b hw h hp =>
    obtain ⟨e1, e2⟩ := body_loop (s := s) (n := 0) (c := 2) (G := G) (K := K) hw h
    have l2 : [a, b].length = 2 := rfl
    rw [l2, e1, e2]
    have hww : w.1 ∈ wordsL := (onesF _ hw).2.2.2.2.2.2.1
    have q4 : Cuts [32, 101, 110, 100] [(4, endT, 0)] y := cuts_wordZ (s := endT) (by decide) hs
    have b4 : Bytes ([101, 110, 100] ++ y) := bytes_app (bytes_lit rfl) hy
    have b3 : Bytes (G 1 0 ++ ([32, 101, 110, 100] ++ y)) := bytes_app (hG _ _) (bytes_app (bytes_lit rfl) hy)
    obtain ⟨z3, hz3⟩ : ∃ z, z = G 1 0 ++ ([32, 101, 110, 100] ++ y) := ⟨_, rfl⟩
    obtain ⟨z1, hz1⟩ : ∃ z, z = G 0 0 ++ ([58, 32] ++ z3) := ⟨_, rfl⟩
    have p1 : Cuts (w.1 ++ [32]) [(4, w.1, 0)] (s ++ ([32, 105, 110, 32] ++ z1)) := cuts_wordA hww _
    have p2 : Cuts s [(3, s, 0)] ([32, 105, 110, 32] ++ z1) := cuts_plain hp (Stop.cons b32)
    have p3 : Cuts [32, 105, 110, 32] [(4, inT, 0)] z1 := cuts_wordB (s := inT) (by decide) z1
    have p4 : Cuts (G 0 0) (K 0 0) ([58, 32] ++ z3) := hC 0 (by simp) 0 (by omega) _ (bytes_app (bytes_lit rfl) (by rw [hz3]; exact b3)) (Stop.cons b58)
    have p5 : Cuts [58, 32] [(5, colonT, 0)] z3 := Cuts.app (u := [58]) (v := [32]) (js := []) (cuts_colon _) (cuts_blank z3)
    have p6 : Cuts (G 1 0) (K 1 0) ([32, 101, 110, 100] ++ y) := hC 1 (by simp) 0 (by omega) _ (bytes_app (bytes_lit rfl) hy) (Stop.cons b32)
    have r1 : Cuts (((w.1 ++ [32]) ++ s) ++ [32, 105, 110, 32]) [(4, w.1, 0), (3, s, 0), (4, inT, 0)] z1 := by
      have := Cuts.app (Cuts.app p1 p2) p3
      simpa using this
    subst hz1
    have r2 := Cuts.app r1 p4
    have r3 := Cuts.app r2 p5
    subst hz3
    exact (Cuts.app r3 p6).app q4
end
mutual
theorem tell_bytes : ∀ (t : Tr), t.Good → ∀ m, Bytes (tellT t m)
  | .node k s n ks, h, m => by
    have hb := body_bytes h.1 (fun i m => tellL_bytes ks h.2 i m)
    simp only [tellT]
    split
    · exact bytes_app (bytes_app (bytes_lit rfl) hb) (bytes_lit rfl)
    · exact hb
theorem tellL_bytes : ∀ (ts : List Tr), GoodL ts → ∀ i m, Bytes (kidG (tellTL ts) i m)
  | [], _, i, m => by unfold kidG; simp only [tellTL, List.getElem?_nil]; exact bytes_nil
  | t :: ts, h, 0, m => by
    have := tell_bytes t h.1 m
    unfold kidG
    simp only [tellTL, List.getElem?_cons_zero]
    exact this
  | t :: ts, h, i + 1, m => by
    have := tellL_bytes ts h.2 i m
    unfold kidG at this ⊢
    simp only [tellTL, List.getElem?_cons_succ]
    exact this
end
mutual
theorem tell_cuts : ∀ (t : Tr), t.Good → ∀ m, m ≤ 8 → ∀ y, Bytes y → Stop y → Cuts (tellT t m) (tkT t m) y
  | .node k s n ks, h, m, _, y, hy, hs => by
    have hG := fun i m => tellL_bytes ks h.2 i m
    have hb := body_cuts (K := kidK (tkTL ks)) h.1 hG (tellL_cuts ks h.2)
    simp only [tellT, tkT]
    split
    · exact ((Cuts.app (cuts_open _) (hb _ (bytes_app (bytes_lit rfl) hy) (Stop.cons b41))).app (cuts_close y))
    · exact hb y hy hs
theorem tellL_cuts : ∀ (ts : List Tr), GoodL ts → ∀ i, i < ts.length → ∀ m, m ≤ 8 → ∀ y, Bytes y → Stop y → Cuts (kidG (tellTL ts) i m) (kidK (tkTL ts) i m) y
  | [], _, i, hi, _, _, _, _, _ => by simp at hi
  | t :: ts, h, 0, _, m, hm, y, hy, hs => by
    have := tell_cuts t h.1 m hm y hy hs
    unfold kidG kidK
    simp only [tellTL, tkTL, List.getElem?_cons_zero]
    exact this
  | t :: ts, h, i + 1, hi, m, hm, y, hy, hs => by
    have := tellL_cuts ts h.2 i (by simpa using hi) m hm y hy hs
    unfold kidG kidK at this ⊢
    simp only [tellTL, tkTL, List.getElem?_cons_succ]
    exact this
end
end Go.Proofs.YtlenenfgedgmhaaDoor
