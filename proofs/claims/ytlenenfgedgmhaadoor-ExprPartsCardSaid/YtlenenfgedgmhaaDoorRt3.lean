/- A tree's tokens are read as the tree: by the tree. -/
import Derived.Test.YtlenenfgedgmhaaDoorRt2
namespace Go.Proofs.YtlenenfgedgmhaaDoor
set_option linter.unusedSimpArgs false
set_option linter.unusedVariables false

/-- tokens that do not begin with 'not' -/
def Lead (ks : List AT) : Prop := ∃ x js, ks = x :: js ∧ ¬ (4 ≤ x.1 ∧ x.2.1 = notT)
theorem Lead.app {ks js : List AT} (h : Lead ks) : Lead (ks ++ js) := by
  obtain ⟨x, r, rfl, h2⟩ := h
  exact ⟨x, r ++ js, rfl, h2⟩
theorem Lead.not {l : List Tok} {a : Nat} {ks : List AT} (h : Lead ks) (hs : Sees l a ks) : isT l a notT = false := by
  obtain ⟨⟨k, s, v⟩, r, rfl, h2⟩ := h
  obtain ⟨t, h3, h4⟩ := hs.head
  rw [isT_abs h3 h4]
  cases hb : (decide (4 ≤ k) && decide (s = notT)) with
  | false => rfl
  | true =>
    rw [Bool.and_eq_true, decide_eq_true_eq, decide_eq_true_eq] at hb
    exact absurd hb h2
theorem lead_word {y : List Nat × Nat × Nat} (hy : y ∈ onesL) (js : List AT) : Lead ((4, y.1, 0) :: js) := by
  have : ∀ y ∈ onesL, y.1 ≠ notT := by decide
  exact ⟨_, _, rfl, fun h => this y hy h.2⟩
section
variable {k : Nat} {s : List Nat} {n : Int} {K : Nat → Nat → List AT} {l : List Tok}
theorem body_lead {ks : List Tr} (hn : Node k s n ks) (h4 : 4 ≤ levelN (k : Int)) (hK : ∀ i, i < ks.length → ∀ m, 4 ≤ m → Lead (K i m)) : Lead (bodyK k s n ks.length K) := by
  obtain ⟨hsh, _⟩ := hn
  cases hsh with
  | int h =>
    show Lead (if n < 0 then [(5, [45], 0), (1, [], -n)] else [(1, [], n)])
    split
    · exact ⟨_, _, rfl, fun h => absurd h.2 (show ([45] : List Nat) ≠ notT by decide)⟩
    · exact ⟨_, _, rfl, fun h => absurd h.1 (show ¬ (4 : Int) ≤ 1 by decide)⟩
  | text h => exact ⟨_, _, rfl, fun h => absurd h.1 (show ¬ (4 : Int) ≤ 2 by decide)⟩
  | name h => exact ⟨_, _, rfl, fun h => absurd h.1 (show ¬ (4 : Int) ≤ 3 by decide)⟩
  | zero hy h =>
    rw [List.length_nil, (body_zero (s := []) (n := 0) (G := fun _ _ => []) (K := K) hy h).2]
    exact lead_word hy _
  | post hx h h11 hp =>
    rw [List.length_singleton, (body_post (n := 0) (c := 1) (G := fun _ _ => []) (K := K) hx h).2]
    exact (hK 0 (by simp) 7 (by omega)).app
  | parent =>
    show Lead (K 0 7 ++ [(5, [94], 0)])
    exact (hK 0 (by simp) 7 (by omega)).app
  | not_ => exact absurd h4 (by decide)
  | one hy h =>
    rw [List.length_singleton, (body_one (s := []) (n := 0) (G := fun _ _ => []) (K := K) hy h).2]
    exact lead_word hy _
  | @bin x a b hx h =>
    have l2 : [a, b].length = 2 := rfl
    rw [l2, (body_bin (s := []) (n := 0) (c := 2) (G := fun _ _ => []) (K := K) hx h).2]
    obtain ⟨_, _, _, _, hl, _⟩ := binF x hx h
    rw [hl] at h4
    exact ((hK 0 (by simp) _ (by split <;> omega)).app).app
  | iff => exact lead_word (y := ([105, 102], 30, 3)) (by decide) _
  | loop hy h hp =>
    rw [show ([_, _] : List Tr).length = 2 from rfl, (body_loop (n := 0) (c := 2) (G := fun _ _ => []) (K := K) hy h).2]
    exact lead_word hy _
mutual
theorem tree_lead : ∀ (t : Tr), t.Good → ∀ m, 4 ≤ m → Lead (tkT t m)
  | .node k s n ks, h, m, h4 => by
    simp only [tkT]
    split
    · exact ⟨_, _, rfl, fun h => absurd h.2 (show ([40] : List Nat) ≠ notT by decide)⟩
    · exact body_lead h.1 (by omega) (treeL_lead ks h.2)
theorem treeL_lead : ∀ (ts : List Tr), GoodL ts → ∀ i, i < ts.length → ∀ m, 4 ≤ m → Lead (kidK (tkTL ts) i m)
  | [], _, i, hi, _, _ => by simp at hi
  | t :: ts, h, 0, _, m, hm => by
    have := tree_lead t h.1 m hm
    unfold kidK
    simp only [tkTL, List.getElem?_cons_zero]
    exact this
  | t :: ts, h, i + 1, hi, m, hm => by
    have := treeL_lead ts h.2 i (by simpa using hi) m hm
    unfold kidK at this ⊢
    simp only [tkTL, List.getElem?_cons_succ]
    exact this
end
/-- what holds of a part that is read -/
def KidR (l : List Tok) (u : Tr) (g : Nat → List AT) : Prop := ∀ m n a r, (m = n ∨ m = 0 ∧ n = 1) → 1 ≤ n → n ≤ 7 → Sees l a (g m) → (∀ q, n < q → q ≤ 7 → signK l q (a + (g m).length) = 0) → (n = 4 → signK l 4 (a + (g m).length) = 0) → Cont l n u (a + (g m).length) r → RL l n a r
/-- a part behind which no sign stands -/
theorem KidR.ok {u : Tr} {g : Nat → List AT} (h : KidR l u g) {m n a : Nat} (hm : m = n ∨ m = 0 ∧ n = 1) (h1 : 1 ≤ n) (h7 : n ≤ 7) (hs : Sees l a (g m)) (hz : ∀ q, n ≤ q → q ≤ 7 → signK l q (a + (g m).length) = 0) : RL l n a (.ok u (a + (g m).length)) :=
  h m n a _ hm h1 h7 hs (fun q q1 q2 => hz q (by omega) q2) (fun e => hz 4 (by omega) (by omega)) (Cont.zero u (hz n (Nat.le_refl _) h7))
/-- a part in which anything may stand, ahead of a mark or word that is no sign -/
theorem KidR.whole {u : Tr} {g : Nat → List AT} (h : KidR l u g) {a : Nat} {t : Tok} {x : List Nat} {k v : Int} (hs : Sees l a (g 0)) (ht : l[a + (g 0).length]? = some t) (e : t.abs = (k, x, v)) (hk : 4 ≤ k) (hx : x ∈ [closeT, colonT, endT, thenT, elseT, inT]) : RL l 1 a (.ok u (a + (g 0).length)) :=
  h.ok (Or.inr ⟨rfl, rfl⟩) (Nat.le_refl _) (by omega) hs (fun q _ q2 => by rw [sign_abs ht e hk]; exact sig_no x hx q (List.mem_range.2 (by omega)))
theorem tok_isT {a : Nat} {t : Tok} {s : List Nat} {k v : Int} (ht : l[a]? = some t) (e : t.abs = (k, s, v)) (hk : 4 ≤ k) : isT l a s = true := by rw [isT_abs ht e, decide_eq_true hk, decide_eq_true rfl]; rfl
theorem body_reads {ks : List Tr} (hn : Node k s n ks) (HK : ∀ i u, ks[i]? = some u → KidR l u (K i)) (HL : 4 ≤ levelN (k : Int) → Lead (bodyK k s n ks.length K)) {m a : Nat} {r : PR} (h1 : 1 ≤ m) (h7 : m ≤ 7) (hm : m ≤ levelN (k : Int)) (hS : Sees l a (bodyK k s n ks.length K))
    (hs : ∀ q, m < q → q ≤ 7 → signK l q (a + (bodyK k s n ks.length K).length) = 0) (h4 : m = 4 → signK l 4 (a + (bodyK k s n ks.length K).length) = 0) (hc : Cont l m (.node k s n ks) (a + (bodyK k s n ks.length K).length) r) : RL l m a r := by
  obtain ⟨hsh, _, _, _⟩ := hn
  cases hsh with
  | int h =>
    have hb : bodyK ((1 : Nat) : Int) [] n ([] : List Tr).length K = (if n < 0 then [(5, [45], 0), (1, [], -n)] else [(1, [], n)]) := rfl
    have hL := (HL (by decide)).not hS
    rw [hb] at hS hs h4 hc
    by_cases h0 : n < 0
    · rw [if_pos h0] at hS hs h4 hc
      obtain ⟨t0, g0, e0⟩ := hS.head
      obtain ⟨t1, g1, e1⟩ := hS.tail.head
      obtain ⟨a1, a2, a3⟩ := kind_abs e0
      obtain ⟨b1, b2, b3⟩ := kind_abs e1
      refine rp_up (rp_1 g0 (fun f => ?_)) h7 hs h4 (fun _ => hL) hc
      rw [a1, a2, if_neg (by omega), if_neg (by omega), if_neg (by omega), if_pos rfl]
      unfold markR
      rw [if_pos (show ([45] : List Nat) = minusT from rfl), g1]
      simp only
      rw [if_pos b1, b3, Int.neg_neg]
      rfl
    · rw [if_neg h0] at hS hs h4 hc
      obtain ⟨t0, g0, e0⟩ := hS.head
      obtain ⟨a1, a2, a3⟩ := kind_abs e0
      refine rp_up (rp_1 g0 (fun f => ?_)) h7 hs h4 (fun _ => hL) hc
      rw [a1, if_pos rfl, a3]
      rfl
  | text h =>
    have hL := (HL (show 4 ≤ levelN ((2 : Nat) : Int) by decide)).not hS
    have hb : bodyK ((2 : Nat) : Int) s 0 ([] : List Tr).length K = [(2, s, 0)] := rfl
    rw [hb] at hS hs h4 hc
    obtain ⟨t0, g0, e0⟩ := hS.head
    obtain ⟨a1, a2, a3⟩ := kind_abs e0
    refine rp_up (rp_1 g0 (fun f => ?_)) h7 hs h4 (fun _ => hL) hc
    rw [a1, if_neg (by omega), if_pos rfl, a2]
    rfl
  | name h =>
    have hL := (HL (show 4 ≤ levelN ((7 : Nat) : Int) by decide)).not hS
    have hb : bodyK ((7 : Nat) : Int) s 0 ([] : List Tr).length K = [(3, s, 0)] := rfl
    rw [hb] at hS hs h4 hc
    obtain ⟨t0, g0, e0⟩ := hS.head
    obtain ⟨a1, a2, a3⟩ := kind_abs e0
    refine rp_up (rp_1 g0 (fun f => ?_)) h7 hs h4 (fun _ => hL) hc
    rw [a1, if_neg (by omega), if_neg (by omega), if_pos rfl, a2]
    rfl
  | @zero y hy h =>
    obtain ⟨_, _, _, _, hl, _, _, _, _, _, ho, hne⟩ := onesF y hy
    have hL := (HL (by rw [hl]; decide)).not hS
    rw [List.length_nil, (body_zero (s := []) (n := 0) (G := fun _ _ => []) (K := K) hy h).2] at hS hs h4 hc
    obtain ⟨t0, g0, e0⟩ := hS.head
    obtain ⟨a1, a2, a3⟩ := kind_abs e0
    refine rp_up (rp_1 g0 (fun f => ?_)) h7 hs h4 (fun _ => hL) hc
    rw [a1, a2, if_neg (by omega), if_neg (by omega), if_neg (by omega), if_neg (by omega)]
    unfold wordR
    rw [ho, if_neg hne, if_pos h]
    rfl
  | @post x s u hx h h11 hp =>
    have hl : levelN ((x.2.1 : Nat) : Int) = 7 := (postF x hx h).2.2.2.1
    have hL := (HL (by rw [hl]; decide)).not hS
    rw [List.length_singleton, (body_post (s := s) (n := 0) (c := 1) (G := fun _ _ => []) (K := K) hx h).2, if_neg (by omega)] at hS hs h4 hc
    have hN : ((K 0 7 ++ ([(5, x.1, 0)] ++ [(3, s, 0)])) : List AT).length = (K 0 7).length + 2 := by simp
    rw [hN] at hs h4 hc
    have s0 := hS.left
    obtain ⟨t0, g0, e0⟩ := hS.right.head
    obtain ⟨t1, g1, e1⟩ := hS.right.tail.head
    have sg : ∀ q, q ≤ 7 → signK l q (a + (K 0 7).length) = if q = x.2.2 then x.2.1 else 0 := fun q hq => by rw [sign_abs g0 e0 (by omega)]; exact sig_sign x hx q (List.mem_range.2 (by omega))
    have hne : x.2.1 ≠ 0 := by
      have : ∀ x ∈ signsL, x.2.1 ≠ 0 := by decide
      exact this x hx
    have main : ∀ r', RQ l (.node x.2.1 s 0 [u]) (a + ((K 0 7).length + 2)) r' → RL l 7 a r' := fun r' hq => by
      refine HK 0 u rfl 7 7 a r' (Or.inl rfl) (by omega) (by omega) s0 (fun q q1 q2 => by omega) (fun e => by omega) ?_
      unfold Cont
      rw [if_pos rfl]
      refine rq_s (sg 7 (by omega)) (by rw [if_pos h.symm]; exact hne) (by rw [if_pos h.symm]; exact h11) g1 e1 ?_
      rw [if_pos h.symm]
      rw [Nat.add_assoc]
      exact hq
    by_cases e : m = 7
    · subst e
      unfold Cont at hc
      rw [if_pos rfl] at hc
      exact main r hc
    · exact climb (main _ (rq_0 _ (hs 7 (by omega) (by omega)))) (by omega) (by omega) hs h4 (fun _ _ => hL) hc
  | @parent u =>
    have hL := (HL (show 4 ≤ levelN ((11 : Nat) : Int) by decide)).not hS
    have hb : bodyK ((11 : Nat) : Int) [] 0 ([u] : List Tr).length K = K 0 7 ++ [(5, [94], 0)] := rfl
    rw [hb] at hS hs h4 hc
    have hN : ((K 0 7 ++ [(5, [94], 0)]) : List AT).length = (K 0 7).length + 1 := by simp
    rw [hN] at hs h4 hc
    have s0 := hS.left
    obtain ⟨t0, g0, e0⟩ := hS.right.head
    have sg : signK l 7 (a + (K 0 7).length) = 11 := by rw [sign_abs g0 e0 (by omega)]; rfl
    have main : ∀ r', RQ l (.node 11 [] 0 [u]) (a + ((K 0 7).length + 1)) r' → RL l 7 a r' := fun r' hq => by
      refine HK 0 u rfl 7 7 a r' (Or.inl rfl) (by omega) (by omega) s0 (fun q q1 q2 => by omega) (fun e => by omega) ?_
      unfold Cont
      rw [if_pos rfl]
      exact rq_p sg (by rw [Nat.add_assoc]; exact hq)
    by_cases e : m = 7
    · subst e
      unfold Cont at hc
      rw [if_pos rfl] at hc
      exact main r hc
    · exact climb (main _ (rq_0 _ (hs 7 (by omega) (by omega)))) (by omega) (by omega) hs h4 (fun _ _ => hL) hc
  | @not_ u =>
    have hl : levelN ((29 : Nat) : Int) = 3 := by decide
    rw [hl] at hm
    have hb : bodyK ((29 : Nat) : Int) [] 0 ([u] : List Tr).length K = [(4, notT, 0)] ++ K 0 3 := rfl
    rw [hb] at hS hs h4 hc
    have hN : (([(4, notT, 0)] ++ K 0 3) : List AT).length = 1 + (K 0 3).length := by simp; omega
    rw [hN, ← Nat.add_assoc] at hs h4 hc
    obtain ⟨t0, g0, e0⟩ := hS.left.head
    have s1 := hS.right
    have main : RL l 3 a (.ok (.node 29 [] 0 [u]) (a + 1 + (K 0 3).length)) := rl_not (tok_isT g0 e0 (by omega)) (HK 0 u rfl 3 3 (a + 1) _ (Or.inl rfl) (by omega) (by omega) s1 (fun q q1 q2 => hs q (by omega) q2) (fun e => by omega) (by unfold Cont; rw [if_neg (by omega), if_pos (Or.inl rfl)]))
    by_cases e : m = 3
    · subst e
      unfold Cont at hc
      rw [if_neg (by omega), if_pos (Or.inl rfl)] at hc
      subst hc
      exact main
    · exact climb main (by omega) (by omega) hs h4 (fun _ q => by omega) hc
  | @one y u hy h =>
    obtain ⟨_, _, _, _, hl, _, _, _, _, _, ho, hne⟩ := onesF y hy
    have hL := (HL (by rw [hl]; decide)).not hS
    rw [List.length_singleton, (body_one (s := []) (n := 0) (G := fun _ _ => []) (K := K) hy h).2] at hS hs h4 hc
    have hN : (([(4, y.1, 0), (5, [40], 0)] ++ K 0 0 ++ [(5, [41], 0)]) : List AT).length = 2 + (K 0 0).length + 1 := by simp; omega
    rw [hN] at hs h4 hc
    obtain ⟨t0, g0, e0⟩ := hS.left.left.head
    obtain ⟨t1, g1, e1⟩ := hS.left.left.tail.head
    have s2 := hS.left.right
    obtain ⟨t3, g3, e3⟩ := hS.right.head
    obtain ⟨a1, a2, a3⟩ := kind_abs e0
    have p2 : a + ([(4, y.1, 0), (5, [40], 0)] : List AT).length = a + 2 := rfl
    rw [p2] at s2
    have p3 : a + (([(4, y.1, 0), (5, [40], 0)] ++ K 0 0) : List AT).length = a + 2 + (K 0 0).length := by simp; omega
    rw [p3] at g3
    obtain ⟨f0, hk⟩ := (HK 0 u rfl).whole s2 g3 e3 (by omega) (by decide)
    refine rp_up (rp_n g0 (f0 := f0) (fun f hf => ?_)) h7 hs h4 (fun _ => hL) hc
    rw [a1, a2, if_neg (by omega), if_neg (by omega), if_neg (by omega), if_neg (by omega)]
    unfold wordR
    rw [ho, if_neg hne, if_neg (by omega), if_pos h, want_ok (tok_isT (s := openT) g1 e1 (by omega)), hk f hf]
    show want l _ closeT _ = _
    rw [want_ok (tok_isT (s := closeT) g3 e3 (by omega))]
    congr 1
    omega
  | @bin x u v hx h =>
    obtain ⟨_, _, _, _, hl, _, _, _, hl1, hl3⟩ := binF x hx h
    rw [hl] at hm HL
    have hL : 4 ≤ x.2.2 → isT l a notT = false := fun q => (HL q).not hS
    have l2 : [u, v].length = 2 := rfl
    rw [l2, (body_bin (s := []) (n := 0) (c := 2) (G := fun _ _ => []) (K := K) hx h).2] at hS hs h4 hc
    obtain ⟨L, hLe⟩ : ∃ L, (if x.2.2 = 4 then 5 else x.2.2) = L := ⟨_, rfl⟩
    rw [hLe] at hS hs h4 hc
    obtain ⟨kk, hkk⟩ : ∃ kk : Int, (if x.2.2 < 3 then (4 : Int) else 5) = kk := ⟨_, rfl⟩
    have hk4 : 4 ≤ kk := by rw [← hkk]; split <;> omega
    rw [hkk] at hS hs h4 hc
    have hN : ((K 0 L ++ [(kk, x.1, 0)] ++ K 1 (x.2.2 + 1)) : List AT).length = (K 0 L).length + 1 + (K 1 (x.2.2 + 1)).length := by simp; omega
    rw [hN] at hs h4 hc
    have s0 := hS.left.left
    obtain ⟨t0, g0, e0⟩ := hS.left.right.head
    have s1 := hS.right
    have p1 : a + ((K 0 L ++ [(kk, x.1, 0)]) : List AT).length = a + (K 0 L).length + 1 := by simp; omega
    rw [p1] at s1
    have sg : ∀ q, q ≤ 7 → signK l q (a + (K 0 L).length) = if q = x.2.2 then x.2.1 else 0 := fun q hq => by rw [sign_abs g0 e0 hk4]; exact sig_sign x hx q (List.mem_range.2 (by omega))
    have hne : x.2.1 ≠ 0 := by
      have : ∀ x ∈ signsL, x.2.1 ≠ 0 := by decide
      exact this x hx
    have pj : a + ((K 0 L).length + 1 + (K 1 (x.2.2 + 1)).length) = a + (K 0 L).length + 1 + (K 1 (x.2.2 + 1)).length := by omega
    rw [pj] at hs h4 hc
    have k1 : RL l (x.2.2 + 1) (a + (K 0 L).length + 1) (.ok v (a + (K 0 L).length + 1 + (K 1 (x.2.2 + 1)).length)) := (HK 1 v rfl).ok (Or.inl rfl) (by omega) (by omega) s1 (fun q q1 q2 => hs q (by omega) q2)
    by_cases e4 : x.2.2 = 4
    · rw [if_pos e4] at hLe
      subst hLe
      rw [e4] at k1
      have k0 : RL l 5 a (.ok u (a + (K 0 5).length)) := (HK 0 u rfl).ok (Or.inl rfl) (by omega) (by omega) s0 (fun q q1 q2 => by rw [sg q q2, if_neg (by omega)])
      have main : RL l 4 a (.ok (.node x.2.1 [] 0 [u, v]) (a + (K 0 5).length + 1 + (K 1 (x.2.2 + 1)).length)) := by
        have := rl_n (n := 4) (by omega) (by omega) k0 (rr_4 (by rw [sg 4 (by omega), if_pos e4.symm]) hne k1)
        rw [e4]
        exact this
      by_cases e : m = 4
      · subst e
        unfold Cont at hc
        rw [if_neg (by omega), if_pos (Or.inr rfl)] at hc
        subst hc
        exact main
      · exact climb main (by omega) (by omega) hs h4 (fun _ _ => hL (by omega)) hc
    · rw [if_neg e4] at hLe
      subst hLe
      have main : ∀ r', RR l x.2.2 (.node x.2.1 [] 0 [u, v]) (a + (K 0 x.2.2).length + 1 + (K 1 (x.2.2 + 1)).length) r' → RL l x.2.2 a r' := fun r' hr => by
        refine HK 0 u rfl x.2.2 x.2.2 a r' (Or.inl rfl) hl1 (by omega) s0 (fun q q1 q2 => by rw [sg q q2, if_neg (by omega)]) (fun e => by omega) ?_
        unfold Cont
        rw [if_neg (by omega), if_neg (by omega)]
        exact rr_s (by rw [sg _ (by omega), if_pos rfl]) hne e4 k1 hr
      by_cases e : m = x.2.2
      · subst e
        unfold Cont at hc
        rw [if_neg (by omega), if_neg (by omega)] at hc
        exact main r hc
      · exact climb (main _ (rr_0 _ (hs _ (by omega) (by omega)))) (by omega) (by omega) hs h4 (fun _ q => hL (by omega)) hc
  | @iff u v w =>
    have hL := (HL (show 4 ≤ levelN ((30 : Nat) : Int) by decide)).not hS
    have hb : bodyK ((30 : Nat) : Int) [] 0 ([u, v, w] : List Tr).length K = [(4, [105, 102], 0)] ++ K 0 0 ++ [(4, thenT, 0)] ++ K 1 0 ++ [(4, elseT, 0)] ++ K 2 0 ++ [(4, endT, 0)] := rfl
    rw [hb] at hS hs h4 hc
    obtain ⟨c0, hc0⟩ : ∃ c, (K 0 0).length = c := ⟨_, rfl⟩
    obtain ⟨c1, hc1⟩ : ∃ c, (K 1 0).length = c := ⟨_, rfl⟩
    obtain ⟨c2, hc2⟩ : ∃ c, (K 2 0).length = c := ⟨_, rfl⟩
    obtain ⟨t0, g0, e0⟩ := hS.left.left.left.left.left.left.head
    have s1 := hS.left.left.left.left.left.right
    obtain ⟨t1, g1, e1⟩ := hS.left.left.left.left.right.head
    have s2 := hS.left.left.left.right
    obtain ⟨t2, g2, e2⟩ := hS.left.left.right.head
    have s3 := hS.left.right
    obtain ⟨t3, g3, e3⟩ := hS.right.head
    simp only [List.length_append, List.length_cons, List.length_nil, hc0, hc1, hc2] at s1 g1 s2 g2 s3 g3 hs h4 hc
    obtain ⟨a1, a2, a3⟩ := kind_abs e0
    have q1 : a + (0 + 1) = a + 1 := rfl
    have q2 : a + (0 + 1 + c0) = a + 1 + c0 := by omega
    have q3 : a + (0 + 1 + c0 + (0 + 1)) = a + 1 + c0 + 1 := by omega
    have q4 : a + (0 + 1 + c0 + (0 + 1) + c1) = a + 1 + c0 + 1 + c1 := by omega
    have q5 : a + (0 + 1 + c0 + (0 + 1) + c1 + (0 + 1)) = a + 1 + c0 + 1 + c1 + 1 := by omega
    have q6 : a + (0 + 1 + c0 + (0 + 1) + c1 + (0 + 1) + c2) = a + 1 + c0 + 1 + c1 + 1 + c2 := by omega
    have q7 : a + (0 + 1 + c0 + (0 + 1) + c1 + (0 + 1) + c2 + (0 + 1)) = a + 1 + c0 + 1 + c1 + 1 + c2 + 1 := by omega
    rw [q1] at s1
    rw [q2] at g1
    rw [q3] at s2
    rw [q4] at g2
    rw [q5] at s3
    rw [q6] at g3
    rw [q7] at hs h4 hc
    obtain ⟨f0, k0⟩ := (HK 0 u rfl).whole s1 (by rw [hc0]; exact g1) e1 (by omega) (by decide)
    obtain ⟨f1, k1⟩ := (HK 1 v rfl).whole s2 (by rw [hc1]; exact g2) e2 (by omega) (by decide)
    obtain ⟨f2, k2⟩ := (HK 2 w rfl).whole s3 (by rw [hc2]; exact g3) e3 (by omega) (by decide)
    rw [hc0] at k0
    rw [hc1] at k1
    rw [hc2] at k2
    refine rp_up (rp_n g0 (f0 := max f0 (max f1 f2)) (fun f hf => ?_)) h7 hs h4 (fun _ => hL) hc
    rw [a1, a2, if_neg (by omega), if_neg (by omega), if_neg (by omega), if_neg (by omega)]
    unfold wordR
    rw [show oneN [105, 102] = (30, 3) from by decide, if_neg (by decide), if_neg (by decide), if_neg (by decide), if_neg (by decide), k0 f (by omega)]
    show want l _ thenT _ = _
    rw [want_ok (tok_isT (s := thenT) g1 e1 (by omega)), k1 f (by omega)]
    show want l _ elseT _ = _
    rw [want_ok (tok_isT (s := elseT) g2 e2 (by omega)), k2 f (by omega)]
    show want l _ endT _ = _
    rw [want_ok (tok_isT (s := endT) g3 e3 (by omega))]
  | @loop y s u v hy h hp =>
    obtain ⟨_, _, _, _, hl, _, _, _, _, _, ho, hne⟩ := onesF y hy
    have hL := (HL (by rw [hl]; decide)).not hS
    have l2 : [u, v].length = 2 := rfl
    rw [l2, (body_loop (n := 0) (c := 2) (G := fun _ _ => []) (K := K) hy h).2] at hS hs h4 hc
    obtain ⟨c0, hc0⟩ : ∃ c, (K 0 0).length = c := ⟨_, rfl⟩
    obtain ⟨c1, hc1⟩ : ∃ c, (K 1 0).length = c := ⟨_, rfl⟩
    obtain ⟨t0, g0, e0⟩ := hS.left.left.left.left.head
    obtain ⟨tn, gn, en⟩ := hS.left.left.left.left.tail.head
    obtain ⟨ti, gi, ei⟩ := hS.left.left.left.left.tail.tail.head
    have s1 := hS.left.left.left.right
    obtain ⟨t1, g1, e1⟩ := hS.left.left.right.head
    have s2 := hS.left.right
    obtain ⟨t3, g3, e3⟩ := hS.right.head
    simp only [List.length_append, List.length_cons, List.length_nil, hc0, hc1] at s1 g1 s2 g3 hs h4 hc
    obtain ⟨a1, a2, a3⟩ := kind_abs e0
    have q1 : a + (0 + 1 + 1 + 1) = a + 3 := by omega
    have q2 : a + (0 + 1 + 1 + 1 + c0) = a + 3 + c0 := by omega
    have q3 : a + (0 + 1 + 1 + 1 + c0 + (0 + 1)) = a + 3 + c0 + 1 := by omega
    have q4 : a + (0 + 1 + 1 + 1 + c0 + (0 + 1) + c1) = a + 3 + c0 + 1 + c1 := by omega
    have q5 : a + (0 + 1 + 1 + 1 + c0 + (0 + 1) + c1 + (0 + 1)) = a + 3 + c0 + 1 + c1 + 1 := by omega
    rw [q1] at s1
    rw [q2] at g1
    rw [q3] at s2
    rw [q4] at g3
    rw [q5] at hs h4 hc
    obtain ⟨f0, k0⟩ := (HK 0 u rfl).whole s1 (by rw [hc0]; exact g1) e1 (by omega) (by decide)
    obtain ⟨f1, k1⟩ := (HK 1 v rfl).whole s2 (by rw [hc1]; exact g3) e3 (by omega) (by decide)
    rw [hc0] at k0
    rw [hc1] at k1
    refine rp_up (rp_n g0 (f0 := max f0 f1) (fun f hf => ?_)) h7 hs h4 (fun _ => hL) hc
    rw [a1, a2, if_neg (by omega), if_neg (by omega), if_neg (by omega), if_neg (by omega)]
    unfold wordR
    rw [ho, if_neg hne, if_neg (by omega), if_neg (by omega), if_pos h, name_at gn en, want_ok (tok_isT (s := inT) gi ei (by omega)), k0 f (by omega)]
    show want l _ colonT _ = _
    rw [want_ok (tok_isT (s := colonT) g1 e1 (by omega)), k1 f (by omega)]
    show want l _ endT _ = _
    rw [want_ok (tok_isT (s := endT) g3 e3 (by omega))]
mutual
theorem tree_reads (l : List Tok) : ∀ (t : Tr), t.Good → KidR l t (tkT t)
  | .node k s n ks, h => by
    have HK := treeL_reads l ks h.2
    have HL : 4 ≤ levelN (k : Int) → Lead (bodyK k s n ks.length (kidK (tkTL ks))) := fun q => body_lead h.1 q (treeL_lead ks h.2)
    have lv := level_le (k : Int)
    intro m n' a r hm h1 h7 hS hs h4 hc
    simp only [tkT] at hS hs h4 hc
    by_cases hb : levelN (k : Int) < m
    · simp only [if_pos hb] at hS hs h4 hc
      obtain ⟨t0, g0, e0⟩ := hS.left.left.head
      have s1 := hS.left.right
      obtain ⟨t2, g2, e2⟩ := hS.right.head
      have q1 : a + ([(5, [40], 0)] : List AT).length = a + 1 := rfl
      have q2 : a + (([(5, [40], 0)] ++ bodyK (k : Int) s n ks.length (kidK (tkTL ks))) : List AT).length = a + 1 + (bodyK (k : Int) s n ks.length (kidK (tkTL ks))).length := by simp; omega
      have q3 : a + (([(5, [40], 0)] ++ bodyK (k : Int) s n ks.length (kidK (tkTL ks)) ++ [(5, [41], 0)]) : List AT).length = a + 1 + (bodyK (k : Int) s n ks.length (kidK (tkTL ks))).length + 1 := by simp; omega
      rw [q1] at s1
      rw [q2] at g2
      rw [q3] at hs h4 hc
      have hz : ∀ q, q ≤ 7 → signK l q (a + 1 + (bodyK (k : Int) s n ks.length (kidK (tkTL ks))).length) = 0 := fun q hq => by
        rw [sign_abs g2 e2 (by omega)]
        exact sig_no closeT (by decide) q (List.mem_range.2 (by omega))
      obtain ⟨f0, hk⟩ := body_reads (l := l) (m := 1) (a := a + 1) (r := .ok (.node k s n ks) (a + 1 + (bodyK (k : Int) s n ks.length (kidK (tkTL ks))).length)) h.1 HK HL (Nat.le_refl _) (by omega) lv.1 s1 (fun q _ q2 => hz q q2) (fun e => by omega) (Cont.zero _ (hz 1 (by omega)))
      obtain ⟨a1, a2, a3⟩ := kind_abs e0
      refine rp_up (rp_n g0 (f0 := f0) (fun f hf => ?_)) h7 hs h4 (fun _ => ?_) hc
      · rw [a1, a2, if_neg (by omega), if_neg (by omega), if_neg (by omega), if_pos rfl]
        unfold markR
        rw [if_neg (by decide), if_pos (show ([40] : List Nat) = openT from rfl), hk f hf]
        show want l _ closeT _ = _
        rw [want_ok (tok_isT (s := closeT) g2 e2 (by omega))]
      · rw [isT_abs g0 e0]
        decide
    · simp only [if_neg hb] at hS hs h4 hc
      exact body_reads h.1 HK HL h1 h7 (by omega) hS hs h4 hc
theorem treeL_reads (l : List Tok) : ∀ (ts : List Tr), GoodL ts → ∀ i u, ts[i]? = some u → KidR l u (kidK (tkTL ts) i)
  | [], _, i, u, hu => by simp at hu
  | t :: ts, h, 0, u, hu => by
    simp only [List.getElem?_cons_zero, Option.some.injEq] at hu
    subst hu
    exact tree_reads l t h.1
  | t :: ts, h, i + 1, u, hu => by
    rw [List.getElem?_cons_succ] at hu
    exact treeL_reads l ts h.2 i u hu
end
end
theorem sees_map {T : List Tok} {ks : List AT} (h : T.map Tok.abs = ks) : Sees T 0 ks := fun j x hx => by
  rw [← h, List.getElem?_map] at hx
  obtain ⟨t, h1, h2⟩ := Option.map_eq_some_iff.1 hx
  exact ⟨t, by rw [Nat.zero_add]; exact h1, h2⟩
/-- the tree's text is read as the tree -/
theorem parse_tell {t : Tr} (hg : t.Good) (hl : (tellT t 0).length ≤ 4096) : ∃ T, scanN (tellT t 0) = (T, 0, 0) ∧ parseT T = .ok t T.length := by
  have hb := tell_bytes t hg 0
  obtain ⟨T, i', h1, h2⟩ := tell_cuts t hg 0 (by omega) [] bytes_nil (fun c hc => by cases hc) 0
  rw [List.append_nil] at h1
  refine ⟨T, scan_ok hb hl h1, ?_⟩
  have hlen : (tkT t 0).length = T.length := by rw [← h2, List.length_map]
  have hnone : T[0 + (tkT t 0).length]? = none := List.getElem?_eq_none (by omega)
  obtain ⟨f0, h0⟩ := (tree_reads T t hg).ok (m := 0) (n := 1) (a := 0) (Or.inr ⟨rfl, rfl⟩) (by omega) (by omega) (sees_map h2) (fun q _ _ => sign_none hnone)
  have hF := parse_told T
  have hne : pL T (12 * T.length + 10) 1 0 ≠ .out := by
    intro e
    rw [e] at hF
    exact hF
  have := (p_more T (12 * T.length + 10) (max f0 (12 * T.length + 10)) (by omega)).1 1 0 hne
  rw [h0 _ (by omega)] at this
  unfold parseT
  rw [← this]
  show (if _ then _ else _) = _
  rw [if_neg (by omega)]
  congr 1
  omega
/-- P8.5: the tree's text is read as the tree's nodes -/
theorem parse_back {t : Tr} (hg : t.Good) (hl : (tellT t 0).length ≤ 4096) (hs : t.size ≤ 256) (hd : t.deep ≤ 32) : parseN (tellT t 0) = (t.flat 0, 0, 0) := by
  obtain ⟨T, h1, h2⟩ := parse_tell hg hl
  rw [parseN_run h1, h2]
  show (if _ then _ else _) = _
  rw [if_neg (by omega)]
end Go.Proofs.YtlenenfgedgmhaaDoor
