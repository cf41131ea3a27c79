/- A tree's tokens are read as the tree. -/
import Derived.Test.YtlenenfgedgmhaaDoorRt1
namespace Go.Proofs.YtlenenfgedgmhaaDoor
set_option linter.unusedSimpArgs false
set_option linter.unusedVariables false

/-- those tokens stand there -/
def Sees (l : List Tok) (a : Nat) (ks : List AT) : Prop := ∀ j x, ks[j]? = some x → ∃ t, l[a + j]? = some t ∧ t.abs = x
section
variable {l : List Tok}
theorem Sees.left {a : Nat} {ks js : List AT} (h : Sees l a (ks ++ js)) : Sees l a ks := fun j x hx => h j x (by rw [List.getElem?_append_left (List.getElem?_eq_some_iff.1 hx).1]; exact hx)
theorem Sees.right {a : Nat} {ks js : List AT} (h : Sees l a (ks ++ js)) : Sees l (a + ks.length) js := fun j x hx => by
  have := h (ks.length + j) x (by rw [List.getElem?_append_right (Nat.le_add_right _ _), Nat.add_sub_cancel_left]; exact hx)
  rwa [← Nat.add_assoc] at this
theorem Sees.head {a : Nat} {x : AT} {ks : List AT} (h : Sees l a (x :: ks)) : ∃ t, l[a]? = some t ∧ t.abs = x := h 0 x rfl
theorem Sees.tail {a : Nat} {x : AT} {ks : List AT} (h : Sees l a (x :: ks)) : Sees l (a + 1) ks := fun j y hy => by
  have := h (j + 1) y (by simpa using hy)
  rwa [Nat.add_assoc, Nat.add_comm 1 j]
/-- a mark or a word -/
theorem isT_abs {a : Nat} {t : Tok} {k : Int} {s : List Nat} {v : Int} (h : l[a]? = some t) (e : t.abs = (k, s, v)) (u : List Nat) : isT l a u = (decide (4 ≤ k) && decide (s = u)) := by
  obtain ⟨tk, tt, tn, tp⟩ := t
  injection e with e1 e2
  injection e2 with e2 e3
  simp only at e1 e2 e3
  subst e1 e2 e3
  unfold isT
  rw [h]
def sigN (s : List Nat) (n : Nat) : Nat := match signsL.find? (fun x => decide (x.2.2 = n) && decide (s = x.1)) with
  | some x => x.2.1
  | none => 0
theorem sign_abs {a : Nat} {t : Tok} {k : Int} {s : List Nat} {v : Int} (h : l[a]? = some t) (e : t.abs = (k, s, v)) (hk : 4 ≤ k) (n : Nat) : signK l n a = sigN s n := by
  unfold signK sigN
  have : (fun x : List Nat × Nat × Nat => decide (x.2.2 = n) && isT l a x.1) = (fun x => decide (x.2.2 = n) && decide (s = x.1)) := funext fun x => by rw [isT_abs h e, decide_eq_true hk, Bool.true_and]
  rw [this]
  rfl
theorem sig_sign : ∀ x ∈ signsL, ∀ n ∈ List.range 8, sigN x.1 n = if n = x.2.2 then x.2.1 else 0 := by decide
theorem sig_no : ∀ s ∈ [closeT, colonT, endT, thenT, elseT, inT], ∀ n ∈ List.range 8, sigN s n = 0 := by decide
/-- a row read well with fuel enough -/
def RL (l : List Tok) (n a : Nat) (r : PR) : Prop := ∃ f0, ∀ f, f0 ≤ f → pL l f n a = r
def RR (l : List Tok) (n : Nat) (t : Tr) (a : Nat) (r : PR) : Prop := ∃ f0, ∀ f, f0 ≤ f → pR l f n t a = r
def RQ (l : List Tok) (t : Tr) (a : Nat) (r : PR) : Prop := ∃ f0, ∀ f, f0 ≤ f → pQ l f t a = r
def RP (l : List Tok) (a : Nat) (r : PR) : Prop := ∃ f0, ∀ f, f0 ≤ f → pP l f a = r
theorem fuel1 {f0 f : Nat} (h : f0 + 1 ≤ f) : ∃ g, f = g + 1 ∧ f0 ≤ g := ⟨f - 1, by omega, by omega⟩
theorem rl_not {a j : Nat} {k : Tr} (h : isT l a notT = true) (hr : RL l 3 (a + 1) (.ok k j)) : RL l 3 a (.ok (.node 29 [] 0 [k]) j) := by
  obtain ⟨f0, h0⟩ := hr
  refine ⟨f0 + 1, fun f hf => ?_⟩
  obtain ⟨g, rfl, hg⟩ := fuel1 hf
  rw [pL, if_pos rfl, if_pos h, h0 g hg]
  rfl
theorem rl_3 {a : Nat} {r : PR} (h : isT l a notT = false) (hr : RL l 4 a r) : RL l 3 a r := by
  obtain ⟨f0, h0⟩ := hr
  refine ⟨f0 + 1, fun f hf => ?_⟩
  obtain ⟨g, rfl, hg⟩ := fuel1 hf
  rw [pL, if_pos rfl, if_neg (by rw [h]; simp), h0 g hg]
theorem rl_7 {a j : Nat} {t : Tr} {r : PR} (hp : RP l a (.ok t j)) (hq : RQ l t j r) : RL l 7 a r := by
  obtain ⟨f0, h0⟩ := hp
  obtain ⟨f1, h1⟩ := hq
  refine ⟨max f0 f1 + 1, fun f hf => ?_⟩
  obtain ⟨g, rfl, hg⟩ := fuel1 hf
  rw [pL, if_neg (by omega), if_pos rfl, h0 g (by omega)]
  exact h1 g (by omega)
theorem rl_n {n a j : Nat} {t : Tr} {r : PR} (h3 : n ≠ 3) (h7 : n ≠ 7) (hl : RL l (n + 1) a (.ok t j)) (hr : RR l n t j r) : RL l n a r := by
  obtain ⟨f0, h0⟩ := hl
  obtain ⟨f1, h1⟩ := hr
  refine ⟨max f0 f1 + 1, fun f hf => ?_⟩
  obtain ⟨g, rfl, hg⟩ := fuel1 hf
  rw [pL, if_neg h3, if_neg h7, h0 g (by omega)]
  exact h1 g (by omega)
theorem rr_0 {n j : Nat} (t : Tr) (h : signK l n j = 0) : RR l n t j (.ok t j) := ⟨1, fun f hf => by
  obtain ⟨g, rfl, _⟩ := fuel1 (f0 := 0) hf
  rw [pR, if_pos h]⟩
theorem rr_s {n j k j' : Nat} {t u : Tr} {r : PR} (h : signK l n j = k) (h0 : k ≠ 0) (h4 : n ≠ 4) (hl : RL l (n + 1) (j + 1) (.ok u j')) (hr : RR l n (.node k [] 0 [t, u]) j' r) : RR l n t j r := by
  obtain ⟨f0, g0⟩ := hl
  obtain ⟨f1, g1⟩ := hr
  refine ⟨max f0 f1 + 1, fun f hf => ?_⟩
  obtain ⟨g, rfl, hg⟩ := fuel1 hf
  rw [pR, h, if_neg h0, g0 g (by omega)]
  show (if n = 4 then _ else _) = _
  rw [if_neg h4]
  exact g1 g (by omega)
theorem rr_4 {j k j' : Nat} {t u : Tr} (h : signK l 4 j = k) (h0 : k ≠ 0) (hl : RL l 5 (j + 1) (.ok u j')) : RR l 4 t j (.ok (.node k [] 0 [t, u]) j') := by
  obtain ⟨f0, g0⟩ := hl
  refine ⟨f0 + 1, fun f hf => ?_⟩
  obtain ⟨g, rfl, hg⟩ := fuel1 hf
  rw [pR, h, if_neg h0, g0 g (by omega)]
  rfl
theorem rq_0 {j : Nat} (t : Tr) (h : signK l 7 j = 0) : RQ l t j (.ok t j) := ⟨1, fun f hf => by
  obtain ⟨g, rfl, _⟩ := fuel1 (f0 := 0) hf
  rw [pQ, if_pos h]⟩
theorem rq_p {j : Nat} {t : Tr} {r : PR} (h : signK l 7 j = 11) (hr : RQ l (.node 11 [] 0 [t]) (j + 1) r) : RQ l t j r := by
  obtain ⟨f0, g0⟩ := hr
  refine ⟨f0 + 1, fun f hf => ?_⟩
  obtain ⟨g, rfl, hg⟩ := fuel1 hf
  rw [pQ, h, if_neg (by omega), if_pos rfl]
  exact g0 g hg
theorem name_at {j : Nat} {x : Tok} {s : List Nat} {v : Int} {g : List Nat → PR} (hx : l[j]? = some x) (e : x.abs = (3, s, v)) : nameAt l j g = g s := by
  obtain ⟨tk, tt, tn, tp⟩ := x
  injection e with e1 e2
  injection e2 with e2 e3
  simp only at e1 e2
  subst e1 e2
  unfold nameAt
  rw [hx]
  rfl
theorem rq_s {j k : Nat} {t : Tr} {r : PR} {x : Tok} {s : List Nat} {v : Int} (h : signK l 7 j = k) (h0 : k ≠ 0) (h11 : k ≠ 11) (hx : l[j + 1]? = some x) (e : x.abs = (3, s, v)) (hr : RQ l (.node k s 0 [t]) (j + 2) r) : RQ l t j r := by
  obtain ⟨f0, g0⟩ := hr
  refine ⟨f0 + 1, fun f hf => ?_⟩
  obtain ⟨g, rfl, hg⟩ := fuel1 hf
  rw [pQ, h, if_neg h0, if_neg h11, name_at hx e]
  exact g0 g hg
theorem want_ok {a : Nat} {s : List Nat} {r : PR} (h : isT l a s = true) : want l a s r = r := by unfold want; rw [if_pos h]
/-- what goes on behind a tree at a level -/
def Cont (l : List Tok) (n : Nat) (t : Tr) (j : Nat) (r : PR) : Prop := if n = 7 then RQ l t j r else if n = 3 ∨ n = 4 then r = .ok t j else RR l n t j r
theorem Cont.zero {n j : Nat} (t : Tr) (h : signK l n j = 0) : Cont l n t j (.ok t j) := by
  unfold Cont
  split
  · rename_i e; subst e; exact rq_0 t h
  · split
    · rfl
    · exact rr_0 t h
/-- a level up -/
theorem up1 {n a j : Nat} {t : Tr} {r : PR} (hl : RL l (n + 1) a (.ok t j)) (h6 : n ≤ 6) (h3 : n = 3 → isT l a notT = false) (h4 : n = 4 → signK l 4 j = 0) (hc : Cont l n t j r) : RL l n a r := by
  unfold Cont at hc
  rw [if_neg (by omega)] at hc
  by_cases e3 : n = 3
  · subst e3
    rw [if_pos (Or.inl rfl)] at hc
    subst hc
    exact rl_3 (h3 rfl) hl
  · by_cases e4 : n = 4
    · subst e4
      rw [if_pos (Or.inr rfl)] at hc
      subst hc
      exact rl_n (by omega) (by omega) hl (rr_0 t (h4 rfl))
    · rw [if_neg (by omega)] at hc
      exact rl_n e3 (by omega) hl hc
/-- levels up, where nothing goes on -/
theorem up {a j : Nat} {t : Tr} : ∀ (d n : Nat), n + d ≤ 7 → (∀ q, n ≤ q → q < n + d → signK l q j = 0) → (n ≤ 3 → 3 < n + d → isT l a notT = false) → RL l (n + d) a (.ok t j) → RL l n a (.ok t j)
  | 0, n, _, _, _, h => h
  | d + 1, n, h7, hs, hn, h => by
    have h1 := up d (n + 1) (by omega) (fun q q1 q2 => hs q (by omega) (by omega)) (fun q1 q2 => hn (by omega) (by omega)) (by rw [show n + 1 + d = n + (d + 1) by omega]; exact h)
    exact up1 h1 (by omega) (fun e => hn (by omega) (by omega)) (fun e => e ▸ hs n (Nat.le_refl _) (by omega)) (Cont.zero t (hs n (Nat.le_refl _) (by omega)))
/-- a level of a tree that is read at a tighter one -/
theorem climb {n m a j : Nat} {t : Tr} {r : PR} (h : RL l m a (.ok t j)) (hnm : n < m) (hm : m ≤ 7) (hs : ∀ q, n < q → q ≤ 7 → signK l q j = 0) (h4 : n = 4 → signK l 4 j = 0) (hn : n ≤ 3 → 3 < m → isT l a notT = false) (hc : Cont l n t j r) : RL l n a r := by
  have h1 : RL l (n + 1) a (.ok t j) := up (m - (n + 1)) (n + 1) (by omega) (fun q q1 q2 => hs q (by omega) (by omega)) (fun q1 q2 => hn (by omega) (by omega)) (by rw [show n + 1 + (m - (n + 1)) = m by omega]; exact h)
  exact up1 h1 (by omega) (fun e => hn (by omega) (by omega)) h4 hc
/-- what stands by itself, at a level -/
theorem rp_up {n a j : Nat} {t : Tr} {r : PR} (h : RP l a (.ok t j)) (h7 : n ≤ 7) (hs : ∀ q, n < q → q ≤ 7 → signK l q j = 0) (h4 : n = 4 → signK l 4 j = 0) (hn : n ≤ 3 → isT l a notT = false) (hc : Cont l n t j r) : RL l n a r := by
  by_cases e : n = 7
  · subst e
    unfold Cont at hc
    rw [if_pos rfl] at hc
    exact rl_7 h hc
  · exact climb (rl_7 h (rq_0 t (hs 7 (by omega) (by omega)))) (by omega) (by omega) hs h4 (fun q _ => hn q) hc
theorem kind_abs {t : Tok} {k : Int} {s : List Nat} {v : Int} (e : t.abs = (k, s, v)) : t.kind = k ∧ t.text = s ∧ t.num = v := by
  injection e with e1 e2
  injection e2 with e2 e3
  exact ⟨e1, e2, e3⟩
theorem rp_1 {a : Nat} {t : Tok} (h : l[a]? = some t) {r : PR} (hr : ∀ f, (if t.kind = 1 then .ok (.node 1 [] t.num []) (a + 1) else if t.kind = 2 then .ok (.node 2 t.text 0 []) (a + 1) else if t.kind = 3 then .ok (.node 7 t.text 0 []) (a + 1) else if t.kind = 5 then markR l f a t.text else wordR l f a t.text) = r) : RP l a r := ⟨1, fun f hf => by
  obtain ⟨g, rfl, _⟩ := fuel1 (f0 := 0) hf
  rw [pP_some g h]
  exact hr g⟩
theorem rp_n {a f0 : Nat} {t : Tok} (h : l[a]? = some t) {r : PR} (hr : ∀ f, f0 ≤ f → (if t.kind = 1 then .ok (.node 1 [] t.num []) (a + 1) else if t.kind = 2 then .ok (.node 2 t.text 0 []) (a + 1) else if t.kind = 3 then .ok (.node 7 t.text 0 []) (a + 1) else if t.kind = 5 then markR l f a t.text else wordR l f a t.text) = r) : RP l a r := ⟨f0 + 1, fun f hf => by
  obtain ⟨g, rfl, hg⟩ := fuel1 hf
  rw [pP_some g h]
  exact hr g hg⟩
end
end Go.Proofs.YtlenenfgedgmhaaDoor
