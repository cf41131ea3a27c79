/- More blanks ahead of a text's tokens and behind them: the plain law. -/
import Derived.Test.YtjjppnfdnjdhlaaDoorAw
namespace Go.Proofs.YtjjppnfdnjdhlaaDoor

def blkN (n : Nat) : List Nat := (List.range n).map (fun k => if k % 2 = 0 then 32 else 10)
theorem blk_zero : blkN 0 = [] := rfl
theorem blk_succ (n : Nat) : blkN (n + 1) = blkN n ++ [if n % 2 = 0 then 32 else 10] := by
  unfold blkN
  rw [List.range_succ, List.map_append]
  rfl
theorem blk_len (n : Nat) : (blkN n).length = n := by simp [blkN]
theorem blk_mem {n c : Nat} (h : c ∈ blkN n) : c = 32 ∨ c = 10 := by
  simp only [blkN, List.mem_map] at h
  obtain ⟨k, _, rfl⟩ := h
  split
  · exact Or.inl rfl
  · exact Or.inr rfl
theorem blk_bytes (n : Nat) : Bytes (blkN n) := fun c h => by rcases blk_mem h with rfl | rfl <;> omega
theorem blk_head (n : Nat) (y : List Nat) : (blkN n ++ y).head? = if n = 0 then y.head? else some 32 := by
  cases n with
  | zero => rfl
  | succ n =>
    rw [if_neg (by omega)]
    unfold blkN
    rw [List.range_succ_eq_map]
    rfl
theorem Run.blanks {b : List Nat} (h : ∀ c ∈ b, c = 32 ∨ c = 10) {r : List Nat} {i : Nat} {T : List Tok} {r' : List Nat} {i' : Nat} (hr : Run r (i + b.length) T r' i') : Run (b ++ r) i T r' i' := by
  induction b generalizing i with
  | nil => exact hr
  | cons c b ih =>
    rw [List.cons_append]
    refine .blank (h c (by simp)) (ih (fun x hx => h x (List.mem_cons_of_mem _ hx)) ?_)
    rw [List.length_cons] at hr
    have e : i + (b.length + 1) = i + 1 + b.length := by omega
    rw [e] at hr
    exact hr
/-- the text with blanks ahead of each token, from a place on -/
def insB (l : List Nat) (cnt : Nat → Nat) (a : Nat) : List Tok → Nat → List Nat
  | [], j => l.drop a ++ blkN (cnt j)
  | t :: T, j => (l.take t.place.toNat).drop a ++ (blkN (cnt j) ++ insB l cnt t.place.toNat T (j + 1))
/-- where the first token stands, and the rest -/
theorem run_first {r : List Nat} {i : Nat} {T : List Tok} {r' : List Nat} {i' : Nat} (h : Run r i T r' i') : Bytes r → ∀ t U, T = t :: U → ∃ p n : Nat, t.place = (p : Int) ∧ i ≤ p ∧ 1 ≤ n ∧ p + n ≤ i + r.length ∧ Run (r.drop (p - i + n)) (p + n) U r' i' := by
  induction h with
  | done r i => intro _ t U h; cases h
  | @blank c t0 i T r' i' hb h ih =>
    intro hr t U e
    obtain ⟨p, n, h1, h2, h3, h4, h5⟩ := ih (fun x hx => hr x (List.mem_cons_of_mem _ hx)) t U e
    refine ⟨p, n, h1, by omega, h3, by rw [List.length_cons]; omega, ?_⟩
    have e2 : p - i + n = (p - (i + 1) + n) + 1 := by omega
    rw [e2, List.drop_succ_cons]
    exact h5
  | @tok r i k s v n T r' i' hnb ht h ih =>
    intro hr t U e
    injection e with e1 e2
    subst e1 e2
    obtain ⟨g1, g2, _⟩ := tok_some hr ht
    refine ⟨i, n, rfl, Nat.le_refl _, g1, by omega, ?_⟩
    rw [Nat.sub_self, Nat.zero_add]
    exact h
theorem take_drop_head {l : List Nat} {p q : Nat} (h : q < p) : ((l.take p).drop q).head? = (l.drop q).head? := by
  rw [List.head?_drop, List.head?_drop, List.getElem?_take_of_lt h]
theorem head_app {a b : List Nat} (h : a ≠ []) : (a ++ b).head? = a.head? := by
  cases a with
  | nil => exact absurd rfl h
  | cons c t => rfl
theorem head_some_ne {a : List Nat} {c : Nat} (h : a.head? = some c) : a ≠ [] := by rintro rfl; cases h
theorem ins_next {l : List Nat} {cnt : Nat → Nat} {r : List Nat} {q : Nat} {T : List Tok} {i' : Nat} (h : Run r q T [] i') (hr : Bytes r) (e : r = l.drop q) (j : Nat) : Next r (insB l cnt q T j) := by
  have far : ∀ (t : Tok) (U : List Tok) (p : Nat) (j : Nat), t.place = (p : Int) → q < p → r ≠ [] → (insB l cnt q (t :: U) j).head? = r.head? := by
    intro t U p j hp hq hne
    have h1 : ((l.take p).drop q).head? = r.head? := by rw [take_drop_head hq, ← e]
    have h2 : (l.take p).drop q ≠ [] := by
      cases r with
      | nil => exact absurd rfl hne
      | cons c u => exact head_some_ne h1
    show ((l.take t.place.toNat).drop q ++ _).head? = _
    rw [hp, Int.toNat_natCast, head_app h2, h1]
  cases h with
  | done =>
    show Next [] (l.drop q ++ blkN (cnt j))
    rw [← e, List.nil_append]
    have := blk_head (cnt j) []
    rw [List.append_nil] at this
    by_cases h0 : cnt j = 0
    · rw [if_pos h0] at this
      exact Or.inr (Or.inl this)
    · rw [if_neg h0] at this
      exact Or.inr (Or.inr (Or.inl this))
  | @blank c t _ _ _ _ hb h =>
    cases T with
    | nil =>
      left
      show (l.drop q ++ blkN (cnt j)).head? = _
      rw [← e]
      rfl
    | cons t0 U =>
      obtain ⟨p, n, h1, h2, _⟩ := run_first h (fun x hx => hr x (List.mem_cons_of_mem _ hx)) t0 U rfl
      left
      exact far t0 U p j h1 (by omega) (by simp)
  | @tok _ _ k s v n T2 _ _ hnb ht h =>
    obtain ⟨g1, g2, _⟩ := tok_some hr ht
    have hne : r ≠ [] := by rintro rfl; simp at g2; omega
    have hd : (l.take q).drop q = [] := List.drop_of_length_le (by rw [List.length_take]; omega)
    show Next r ((l.take ((q : Int).toNat)).drop q ++ (blkN (cnt j) ++ insB l cnt ((q : Int).toNat) T2 (j + 1)))
    rw [Int.toNat_natCast, hd, List.nil_append]
    unfold Next
    rw [blk_head]
    by_cases h0 : cnt j = 0
    · rw [if_pos h0]
      left
      cases T2 with
      | nil =>
        show (l.drop q ++ blkN (cnt (j + 1))).head? = _
        rw [← e, head_app hne]
      | cons t2 U =>
        obtain ⟨p, m, h1, h2, _⟩ := run_first h (bytes_drop hr n) t2 U rfl
        exact far t2 U p (j + 1) h1 (by omega) hne
    · rw [if_neg h0]
      exact Or.inr (Or.inr (Or.inl rfl))
theorem ins_split {l : List Nat} {cnt : Nat → Nat} {q n : Nat} {T : List Tok} (h : ∀ t U, T = t :: U → ∃ p : Nat, t.place = (p : Int) ∧ q + n ≤ p) (j : Nat) : insB l cnt q T j = (l.drop q).take n ++ insB l cnt (q + n) T j := by
  cases T with
  | nil =>
    show l.drop q ++ _ = _ ++ (l.drop (q + n) ++ _)
    rw [← List.append_assoc, ← List.drop_drop, List.take_append_drop]
  | cons t U =>
    obtain ⟨p, h1, h2⟩ := h t U rfl
    show (l.take t.place.toNat).drop q ++ _ = _ ++ ((l.take t.place.toNat).drop (q + n) ++ _)
    rw [h1, Int.toNat_natCast]
    have e : (l.drop q).take n = ((l.take p).drop q).take n := by
      rw [List.drop_take, List.take_take, Nat.min_eq_left (by omega)]
    have e3 : (l.take p).drop q = (l.drop q).take n ++ (l.take p).drop (q + n) := by
      rw [e, ← List.drop_drop, List.take_append_drop]
    rw [e3, List.append_assoc]
theorem ins_run {l : List Nat} (hl : Bytes l) {cnt : Nat → Nat} {r : List Nat} {i : Nat} {T : List Tok} {e : List Nat} {i' : Nat} (h : Run r i T e i') : e = [] → r = l.drop i → ∀ j i0, Bytes (insB l cnt i T j) ∧ ∃ T' j', Run (insB l cnt i T j) i0 T' [] j' ∧ eqBy (alikeP false) T T' = true := by
  induction h with
  | done r i =>
    intro he hr j i0
    have e2 : insB l cnt i [] j = blkN (cnt j) := by
      show l.drop i ++ _ = _
      rw [← hr, he, List.nil_append]
    rw [e2]
    refine ⟨blk_bytes _, [], i0 + (blkN (cnt j)).length, ?_, rfl⟩
    have := Run.blanks (b := blkN (cnt j)) (r := []) (i := i0) (T := []) (fun c hc => blk_mem hc) (.done [] _)
    rw [List.append_nil] at this
    exact this
  | @blank c t i T r' i' hb h ih =>
    intro he hr j i0
    have ht : t = l.drop (i + 1) := by rw [← List.drop_drop, ← hr]; rfl
    have hcb : Bytes (c :: t) := by rw [hr]; exact bytes_drop hl i
    have htb : Bytes t := fun x hx => hcb x (List.mem_cons_of_mem _ hx)
    have e2 : insB l cnt i T j = c :: insB l cnt (i + 1) T j := by
      have := ins_split (l := l) (cnt := cnt) (q := i) (n := 1) (T := T) (fun t0 U hT => by
        obtain ⟨p, n, h1, h2, _⟩ := run_first h htb t0 U hT
        exact ⟨p, h1, h2⟩) j
      rw [this, ← hr]
      rfl
    obtain ⟨h1, T', j', h2, h3⟩ := ih he ht j (i0 + 1)
    rw [e2]
    exact ⟨bytes_cons (hcb c (by simp)) h1, T', j', .blank hb h2, h3⟩
  | @tok r i k s v n T r' i' hnb ht h ih =>
    intro he hr j i0
    have hrb : Bytes r := by rw [hr]; exact bytes_drop hl i
    obtain ⟨g1, g2, _⟩ := tok_some hrb ht
    have hd : (l.take i).drop i = [] := List.drop_of_length_le (by rw [List.length_take]; omega)
    have hdr : r.drop n = l.drop (i + n) := by rw [hr, List.drop_drop]
    have e2 : insB l cnt i (⟨k, s, v, i⟩ :: T) j = blkN (cnt j) ++ ((r.take n) ++ insB l cnt (i + n) T (j + 1)) := by
      show (l.take ((i : Int).toNat)).drop i ++ (blkN (cnt j) ++ insB l cnt ((i : Int).toNat) T (j + 1)) = _
      rw [Int.toNat_natCast, hd, List.nil_append]
      congr 1
      rw [hr]
      exact ins_split (fun t0 U hT => by
        obtain ⟨p, m, h1, h2, _⟩ := run_first h (bytes_drop hrb n) t0 U hT
        exact ⟨p, h1, h2⟩) (j + 1)
    rw [e2]
    subst he
    have hnext := ins_next (cnt := cnt) h (bytes_drop hrb n) hdr (j + 1)
    have hbn := (ih rfl hdr (j + 1) 0).1
    have hloc := tok_local hrb hbn ht hnext
    obtain ⟨h1, T', j', h2, h3⟩ := ih rfl hdr (j + 1) (i0 + (blkN (cnt j)).length + n)
    have htl : (r.take n).length = n := by rw [List.length_take]; omega
    have hdl : (r.take n ++ insB l cnt (i + n) T (j + 1)).drop n = insB l cnt (i + n) T (j + 1) := by
      have := List.drop_left (l₁ := r.take n) (l₂ := insB l cnt (i + n) T (j + 1))
      rw [htl] at this
      exact this
    refine ⟨bytes_app (blk_bytes _) (bytes_app (bytes_take hrb n) h1), ⟨k, s, v, ((i0 + (blkN (cnt j)).length : Nat) : Int)⟩ :: T', j', ?_, ?_⟩
    · refine Run.blanks (fun c hc => blk_mem hc) (.tok (n := n) ?_ hloc ?_)
      · intro c hc
        refine hnb c ?_
        have hne : r.take n ≠ [] := by
          intro h0
          rw [h0] at htl
          simp at htl
          omega
        rw [head_app hne] at hc
        cases r with
        | nil => simp at g2; omega
        | cons a u =>
          obtain ⟨n, rfl⟩ : ∃ m, n = m + 1 := ⟨n - 1, by omega⟩
          exact hc
      · rw [hdl]
        exact h2
    · simp only [eqBy, h3, Bool.and_true]
      simp [alikeP]
/-- MORE BLANKS CHANGE NOTHING BUT PLACES -/
theorem blanks_law {l : List Nat} (hl : Bytes l) (h4 : l.length ≤ 4096) (he : (scanN l).2.2 = 0) (cnt : Nat → Nat) (h4' : (insB l cnt 0 (scanN l).1 0).length ≤ 4096) :
    ∃ T', scanN (insB l cnt 0 (scanN l).1 0) = (T', 0, 0) ∧ eqBy (alikeP false) (scanN l).1 T' = true := by
  rcases scan_cases hl h4 with ⟨T, i', hT, e⟩ | ⟨T, r', i', n, hT, hs, e⟩
  · rw [e] at h4' ⊢
    obtain ⟨h1, T', j', h2, h3⟩ := ins_run hl (cnt := cnt) hT rfl rfl 0 0
    exact ⟨T', scan_ok h1 h4' h2, h3⟩
  · rw [e] at he; exact absurd he (by simp)
/-- the places go up -/
theorem run_places {r : List Nat} {i : Nat} {T : List Tok} {r' : List Nat} {i' : Nat} (h : Run r i T r' i') (hr : Bytes r) : ∀ (k : Nat) (t : Tok), T[k]? = some t → ∃ p : Nat, t.place = (p : Int) ∧ i ≤ p ∧ p ≤ i + r.length ∧ ∀ t', T[k + 1]? = some t' → ∃ p' : Nat, t'.place = (p' : Int) ∧ p ≤ p' := by
  induction h with
  | done r i => intro k t h; simp at h
  | @blank c t0 i T r' i' hb h ih =>
    intro k t hk
    obtain ⟨p, h1, h2, h3, h4⟩ := ih (fun x hx => hr x (List.mem_cons_of_mem _ hx)) k t hk
    exact ⟨p, h1, by omega, by rw [List.length_cons]; omega, h4⟩
  | @tok r i k s v n T r' i' hnb ht h ih =>
    intro j t hj
    obtain ⟨g1, g2, _⟩ := tok_some hr ht
    cases j with
    | zero =>
      injection hj with hj
      subst hj
      refine ⟨i, rfl, Nat.le_refl _, by omega, fun t' ht' => ?_⟩
      obtain ⟨p, h1, h2, _⟩ := ih (bytes_drop hr n) 0 t' ht'
      exact ⟨p, h1, by omega⟩
    | succ j =>
      obtain ⟨p, h1, h2, h3, h4⟩ := ih (bytes_drop hr n) j t hj
      rw [List.length_drop] at h3
      exact ⟨p, h1, by omega, by omega, h4⟩
end Go.Proofs.YtjjppnfdnjdhlaaDoor
