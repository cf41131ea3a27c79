/- The scanner's runs; the four plain laws of scanned texts. -/
import Derived.Test.YtlenenfgedgmhaaDoorRun
namespace Go.Proofs.YtlenenfgedgmhaaDoor
set_option linter.unusedSimpArgs false
set_option linter.unusedVariables false

def NoBlank (r : List Nat) : Prop := ∀ c, r.head? = some c → ¬ (c = 32 ∨ c = 10)
/-- the scanner goes from a text at a place, over tokens, to what is left at a place -/
inductive Run : List Nat → Nat → List Tok → List Nat → Nat → Prop
  | done (r : List Nat) (i : Nat) : Run r i [] r i
  | blank {c : Nat} {t : List Nat} {i : Nat} {T : List Tok} {r' : List Nat} {i' : Nat} : (c = 32 ∨ c = 10) → Run t (i + 1) T r' i' → Run (c :: t) i T r' i'
  | tok {r : List Nat} {i k : Nat} {s : List Nat} {v : Int} {n : Nat} {T : List Tok} {r' : List Nat} {i' : Nat} : NoBlank r → tokR r = (some (k, s, v), n) → Run (r.drop n) (i + n) T r' i' → Run r i (⟨k, s, v, i⟩ :: T) r' i'
/-- no token stands there -/
def Stuck (r : List Nat) (n : Nat) : Prop := r ≠ [] ∧ NoBlank r ∧ tokR r = (none, n)

theorem Run.total : ∀ (N : Nat) (r : List Nat) (i : Nat), r.length ≤ N → Bytes r → (∃ T i', Run r i T [] i') ∨ ∃ T r' i' n, Run r i T r' i' ∧ Stuck r' n
  | 0, r, i, h, hr => by
    have : r = [] := List.eq_nil_of_length_eq_zero (by omega)
    subst this
    exact Or.inl ⟨[], i, .done _ _⟩
  | N + 1, [], i, h, hr => Or.inl ⟨[], i, .done _ _⟩
  | N + 1, c :: t, i, h, hr => by
    by_cases hb : c = 32 ∨ c = 10
    · rcases Run.total N t (i + 1) (by simpa using h) (fun x hx => hr x (List.mem_cons_of_mem _ hx)) with ⟨T, i', h1⟩ | ⟨T, r', i', n, h1, h2⟩
      · exact Or.inl ⟨T, i', .blank hb h1⟩
      · exact Or.inr ⟨T, r', i', n, .blank hb h1, h2⟩
    · have hnb : NoBlank (c :: t) := fun d hd => by injection hd with hd; subst hd; exact hb
      cases ht : tokR (c :: t) with
      | mk a n =>
        cases a with
        | none => exact Or.inr ⟨[], c :: t, i, n, .done _ _, by simp, hnb, ht⟩
        | some q =>
          obtain ⟨k, s, v⟩ := q
          obtain ⟨h1, h2, _⟩ := tok_some hr ht
          rcases Run.total N ((c :: t).drop n) (i + n) (by rw [List.length_drop]; simp only [List.length_cons] at h h2 ⊢; omega) (bytes_drop hr n) with ⟨T, i', h3⟩ | ⟨T, r', i', m, h3, h4⟩
          · exact Or.inl ⟨_, i', .tok hnb ht h3⟩
          · exact Or.inr ⟨_, r', i', m, .tok hnb ht h3, h4⟩
theorem Run.place {r : List Nat} {i : Nat} {T : List Tok} {r' : List Nat} {i' : Nat} (h : Run r i T r' i') (hr : Bytes r) : ∃ m, i' = i + m ∧ m ≤ r.length ∧ r' = r.drop m := by
  induction h with
  | done r i => exact ⟨0, rfl, Nat.zero_le _, rfl⟩
  | blank hb h ih =>
    obtain ⟨m, h1, h2, h3⟩ := ih (fun x hx => hr x (List.mem_cons_of_mem _ hx))
    exact ⟨m + 1, by omega, by simp; omega, by rw [h3]; rfl⟩
  | @tok r i k s v n T r' i' hnb ht h ih =>
    obtain ⟨m, h1, h2, h3⟩ := ih (bytes_drop hr _)
    obtain ⟨h4, h5, _⟩ := tok_some hr ht
    rw [List.length_drop] at h2
    refine ⟨n + m, by rw [h1, Nat.add_assoc], by omega, by rw [h3, List.drop_drop]⟩
theorem Run.trans {r : List Nat} {i : Nat} {T T' : List Tok} {r1 r2 : List Nat} {i1 i2 : Nat} (h : Run r i T r1 i1) (h' : Run r1 i1 T' r2 i2) : Run r i (T ++ T') r2 i2 := by
  induction h with
  | done r i => exact h'
  | blank hb _ ih => exact .blank hb (ih h')
  | tok hnb ht _ ih => exact .tok hnb ht (ih h')
def Tok.shift (d : Nat) (t : Tok) : Tok := ⟨t.kind, t.text, t.num, t.place + d⟩
theorem Run.shift {r : List Nat} {i : Nat} {T : List Tok} {r' : List Nat} {i' : Nat} (h : Run r i T r' i') (d : Nat) : Run r (i + d) (T.map (Tok.shift d)) r' (i' + d) := by
  induction h with
  | done r i => exact .done _ _
  | blank hb _ ih =>
    rw [Nat.add_right_comm] at ih
    exact .blank hb ih
  | @tok r i k s v n T r' i' hnb ht _ ih =>
    rw [Nat.add_right_comm] at ih
    have := Run.tok hnb ht ih
    rw [List.map_cons]
    have e : Tok.shift d ⟨(k : Int), s, v, (i : Int)⟩ = ⟨(k : Int), s, v, ((i + d : Nat) : Int)⟩ := by simp [Tok.shift]
    rw [e]
    exact this
/-- with another text behind it that may stand there -/
theorem Run.ctx {r : List Nat} {i : Nat} {T : List Tok} {r' : List Nat} {i' : Nat} (h : Run r i T r' i') : Bytes r → ∀ y, Bytes y → Next r' y → Run (r.take (i' - i) ++ y) i T y i' := by
  induction h with
  | done r i => intro _ y _ _; rw [Nat.sub_self, List.take_zero]; exact .done _ _
  | @blank c t i T r' i' hb h ih =>
    intro hr y hy hn
    have hr' : Bytes t := fun x hx => hr x (List.mem_cons_of_mem _ hx)
    obtain ⟨m, h1, _, _⟩ := h.place hr'
    have e : i' - i = (i' - (i + 1)) + 1 := by omega
    rw [e, List.take_succ_cons]
    exact .blank hb (ih hr' y hy hn)
  | @tok r i k s v n T r' i' hnb ht h ih =>
    intro hr y hy hn
    obtain ⟨h4, h5, _⟩ := tok_some hr ht
    obtain ⟨m, h1, h2, h3⟩ := h.place (bytes_drop hr n)
    have hX := ih (bytes_drop hr n) y hy hn
    have e1 : i' - (i + n) = m := by omega
    have e2 : i' - i = n + m := by omega
    rw [e1] at hX
    rw [e2, List.take_add, List.append_assoc]
    have hXb : Bytes ((r.drop n).take m ++ y) := bytes_app (bytes_take (bytes_drop hr n) m) hy
    have hnext : Next (r.drop n) ((r.drop n).take m ++ y) := by
      cases hd : r.drop n with
      | nil => rw [hd] at h3; rw [List.drop_nil] at h3; subst h3; rw [List.take_nil, List.nil_append]; exact hn
      | cons a u =>
        cases m with
        | zero => rw [hd, List.drop_zero] at h3; subst h3; rw [List.take_zero, List.nil_append]; exact hn
        | succ m => left; rfl
    have htl : (r.take n).length = n := by rw [List.length_take]; omega
    refine .tok (n := n) ?_ (tok_local hr hXb ht hnext) ?_
    · intro c hc
      refine hnb c ?_
      cases r with
      | nil => simp at h5; omega
      | cons a u =>
        obtain ⟨n, rfl⟩ : ∃ m, n = m + 1 := ⟨n - 1, by omega⟩
        exact hc
    · have : (r.take n ++ ((r.drop n).take m ++ y)).drop n = (r.drop n).take m ++ y := by
        conv => lhs; rw [← htl]
        rw [htl]
        have := List.drop_left (l₁ := r.take n) (l₂ := (r.drop n).take m ++ y)
        rw [htl] at this
        exact this
      rw [this]
      exact hX
theorem drop_get {l r : List Nat} {i : Nat} (h : r = l.drop i) : r.head? = l[i]? := by rw [h, List.head?_drop]
theorem quote_tok {l t : List Nat} {i : Nat} (hl : Bytes l) (h : 34 :: t = l.drop i) : quoteAt l i = match qR t with
    | (some s, n) => (s, i + 1 + n, 0)
    | (none, n) => ([], i + 1 + n, 10) := by
  have hd : l.drop (i + 1) = t := by rw [← List.drop_drop, ← h]; rfl
  unfold quoteAt
  rw [unq_qS _ _ _ _ hl (by rw [hd]; have := congrArg List.length h; rw [List.length_drop, List.length_cons] at this; omega), hd]
  cases qR t with
  | mk a n => cases a <;> simp
/-- the whole reading along a run -/
theorem scan_run {l : List Nat} (hl : Bytes l) {r : List Nat} {i : Nat} {T : List Tok} {r' : List Nat} {i' : Nat} (h : Run r i T r' i') : r = l.drop i → ∀ f o, r.length < f → ∃ f', r'.length < f' ∧ scanT l f i o = scanT l f' i' (o ++ T) := by
  induction h with
  | done r i => intro _ f o hf; exact ⟨f, hf, by rw [List.append_nil]⟩
  | @blank c t i T r' i' hb h ih =>
    intro hr f o hf
    have hd : t = l.drop (i + 1) := by rw [← List.drop_drop, ← hr]; rfl
    obtain ⟨f', h1, h2⟩ := ih hd (f - 1) o (by rw [List.length_cons] at hf; omega)
    refine ⟨f', h1, ?_⟩
    have := scan_blank (l := l) (f := f) (i := i) (c := c) (o := o) rfl (by rw [List.length_cons] at hf; omega) (by rw [← drop_get hr]; rfl) hb
    rw [← this, h2]
  | @tok r i k s v n T r' i' hnb ht h ih =>
    intro hr f o hf
    have hrb : Bytes r := by rw [hr]; exact bytes_drop hl i
    obtain ⟨h4, h5, _⟩ := tok_some hrb ht
    have hd : r.drop n = l.drop (i + n) := by rw [hr, List.drop_drop]
    obtain ⟨f', h1, h2⟩ := ih hd (f - 1) (o ++ [⟨k, s, v, i⟩]) (by rw [List.length_drop]; omega)
    refine ⟨f', h1, ?_⟩
    rw [List.append_assoc] at h2
    rw [List.singleton_append] at h2
    rw [← h2]
    cases hrr : r with
    | nil => rw [hrr] at h5; simp at h5; omega
    | cons c t =>
      rw [hrr] at hr ht hnb
      have hc : l[i]? = some c := by rw [← drop_get hr]; rfl
      have hcb := hnb c rfl
      by_cases h34 : c = 34
      · subst h34
        rw [tokR_quote] at ht
        have hq := quote_tok hl hr
        cases hqr : qR t with
        | mk a m =>
          rw [hqr] at ht hq
          cases a with
          | none => cases ht
          | some s' =>
            simp only [Option.map_some, Prod.mk.injEq, Option.some.injEq] at ht
            obtain ⟨⟨rfl, rfl, rfl⟩, rfl⟩ := ht
            have := scan_quote (l := l) (f := f) (i := i) (o := o) rfl (by omega) hc hq
            rw [← this]
            have e : i + 1 + m = i + (m + 1) := by omega
            rw [e]
            rfl
      · rw [tokR_step h34] at ht
        exact (scan_step (l := l) (f := f) (i := i) (o := o) rfl (by omega) hc hcb h34 (by rw [← hr]; exact ht)).symm
theorem scan_stuck {l r : List Nat} (hl : Bytes l) {i n : Nat} (h : Stuck r n) (hr : r = l.drop i) {f : Nat} (hf : 0 < f) (o : List Tok) : scanT l f i o = ([], i + n, 70) := by
  obtain ⟨h0, hnb, ht⟩ := h
  cases hrr : r with
  | nil => exact absurd hrr h0
  | cons c t =>
    rw [hrr] at hr ht hnb
    have hc : l[i]? = some c := by rw [← drop_get hr]; rfl
    have hcb := hnb c rfl
    by_cases h34 : c = 34
    · subst h34
      rw [tokR_quote] at ht
      have hq := quote_tok hl hr
      cases hqr : qR t with
      | mk a m =>
        rw [hqr] at ht hq
        cases a with
        | some s' => cases ht
        | none =>
          simp only [Option.map_none, Prod.mk.injEq] at ht
          obtain ⟨_, rfl⟩ := ht
          rw [scan_quote_no (l := l) (f := f) (i := i) (o := o) rfl hf hc hq (by omega)]
          have e : i + 1 + m = i + (m + 1) := by omega
          rw [e]
    · rw [tokR_step h34] at ht
      exact scan_step_no (l := l) (f := f) (i := i) (o := o) rfl hf hc hcb h34 (by rw [← hr]; exact ht)
theorem scan_ok {l : List Nat} (hl : Bytes l) (h4 : l.length ≤ 4096) {T : List Tok} {i' : Nat} (h : Run l 0 T [] i') : scanN l = (T, 0, 0) := by
  obtain ⟨f', h1, h2⟩ := scan_run hl h rfl (l.length + 1) [] (by omega)
  obtain ⟨m, h3, _, h5⟩ := h.place hl
  unfold scanN
  rw [if_neg (by omega), h2]
  have hlen := congrArg List.length h5
  rw [List.length_drop] at hlen
  have : l.length ≤ i' := by simp at hlen; omega
  rw [List.nil_append, scan_end rfl this]
theorem scan_no {l : List Nat} (hl : Bytes l) (h4 : l.length ≤ 4096) {T : List Tok} {r' : List Nat} {i' n : Nat} (h : Run l 0 T r' i') (hs : Stuck r' n) : scanN l = ([], i' + n, 70) := by
  obtain ⟨f', h1, h2⟩ := scan_run hl h rfl (l.length + 1) [] (by omega)
  obtain ⟨m, h3, _, h5⟩ := h.place hl
  unfold scanN
  rw [if_neg (by omega), h2]
  exact scan_stuck hl hs (by rw [h5, h3, Nat.zero_add]) (by omega) _
/-- what a text comes to: tokens along a run, or a place -/
theorem scan_cases {l : List Nat} (hl : Bytes l) (h4 : l.length ≤ 4096) : (∃ T i', Run l 0 T [] i' ∧ scanN l = (T, 0, 0)) ∨ (∃ T r' i' n, Run l 0 T r' i' ∧ Stuck r' n ∧ scanN l = ([], i' + n, 70)) := by
  rcases Run.total l.length l 0 (Nat.le_refl _) hl with ⟨T, i', h⟩ | ⟨T, r', i', n, h, hs⟩
  · exact Or.inl ⟨T, i', h, scan_ok hl h4 h⟩
  · exact Or.inr ⟨T, r', i', n, h, hs, scan_no hl h4 h hs⟩
theorem bytes_cons {c : Nat} {l : List Nat} (hc : c < 256) (h : Bytes l) : Bytes (c :: l) := fun x hx => by
  rcases List.mem_cons.1 hx with rfl | hx
  · exact hc
  · exact h x hx

/-- TWO TEXTS WITH A BLANK BETWEEN THEM -/
theorem parts_law {a b : List Nat} (ha : Bytes a) (hb : Bytes b) (h4 : a.length + b.length + 1 ≤ 4096) :
    ((scanN a).2.2 ≠ 0 → (scanN (a ++ 32 :: b)).2.2 = 0 ∨ ((scanN (a ++ 32 :: b)).2.2 = 70 ∧ (scanN a).2.1 ≤ (scanN (a ++ 32 :: b)).2.1)) ∧
    ((scanN a).2.2 = 0 → (scanN b).2.2 ≠ 0 → (scanN (a ++ 32 :: b)).2.2 = 70 ∧ (scanN (a ++ 32 :: b)).2.1 = a.length + 1 + (scanN b).2.1) ∧
    ((scanN a).2.2 = 0 → (scanN b).2.2 = 0 → scanN (a ++ 32 :: b) = ((scanN a).1 ++ (scanN b).1.map (Tok.shift (a.length + 1)), 0, 0)) := by
  have hb' : Bytes (32 :: b) := bytes_cons (by omega) hb
  have hab : Bytes (a ++ 32 :: b) := bytes_app ha hb'
  have hlen : (a ++ 32 :: b).length ≤ 4096 := by simp; omega
  rcases scan_cases ha (by omega) with ⟨T, i', hT, eA⟩ | ⟨T, r', i', n, hT, hs, eA⟩
  · obtain ⟨m, h1, h2, h3⟩ := hT.place ha
    have hm : i' = a.length := by
      have := congrArg List.length h3
      rw [List.length_drop] at this
      simp at this
      omega
    have hR := hT.ctx ha (32 :: b) hb' (Or.inr (Or.inr (Or.inl rfl)))
    rw [Nat.sub_zero, hm, List.take_length] at hR
    rw [eA]
    refine ⟨fun h => absurd rfl h, ?_, ?_⟩
    · intro _ hB
      rcases scan_cases hb (by omega) with ⟨U, j', hU, eB⟩ | ⟨U, s', j', p, hU, hs, eB⟩
      · rw [eB] at hB; exact absurd rfl hB
      · have hU2 := hU.shift (a.length + 1)
        rw [Nat.zero_add] at hU2
        have := scan_no hab hlen (hR.trans (.blank (Or.inl rfl) hU2)) hs
        rw [this, eB]
        exact ⟨rfl, by show j' + (a.length + 1) + p = a.length + 1 + (j' + p); omega⟩
    · intro _ hB
      rcases scan_cases hb (by omega) with ⟨U, j', hU, eB⟩ | ⟨U, s', j', p, hU, hs, eB⟩
      · have hU2 := hU.shift (a.length + 1)
        rw [Nat.zero_add] at hU2
        have := scan_ok hab hlen (hR.trans (.blank (Or.inl rfl) hU2))
        rw [this, eB]
      · rw [eB] at hB; exact absurd hB (by simp)
  · rw [eA]
    refine ⟨fun _ => ?_, fun h => absurd h (by simp), fun h => absurd h (by simp)⟩
    obtain ⟨h0, hnb, ht⟩ := hs
    obtain ⟨m, h1, h2, h3⟩ := hT.place ha
    have hr'b : Bytes r' := by rw [h3]; exact bytes_drop ha m
    have hR := hT.ctx ha (r' ++ 32 :: b) (bytes_app hr'b hb') (by
      cases r' with
      | nil => exact absurd rfl h0
      | cons c t => left; rfl)
    have e : a.take (i' - 0) ++ (r' ++ 32 :: b) = a ++ 32 :: b := by
      rw [h3, h1, Nat.zero_add, Nat.sub_zero, ← List.append_assoc, List.take_append_drop]
    rw [e] at hR
    have hmore := tok_more hr'b h0 ht hb' (by simp)
    have hnb2 : NoBlank (r' ++ 32 :: b) := by
      cases r' with
      | nil => exact absurd rfl h0
      | cons c t => exact hnb
    have hb2 := bytes_app hr'b hb'
    cases ht2 : tokR (r' ++ 32 :: b) with
    | mk q n' =>
      rw [ht2] at hmore
      have hmore' : n ≤ n' := hmore
      cases q with
      | none =>
        have := scan_no hab hlen hR ⟨by simp, hnb2, ht2⟩
        rw [this]
        exact Or.inr ⟨rfl, by show i' + n ≤ i' + n'; omega⟩
      | some q =>
        obtain ⟨k, s, v⟩ := q
        obtain ⟨g1, g2, _⟩ := tok_some hb2 ht2
        rcases Run.total _ ((r' ++ 32 :: b).drop n') (i' + n') (Nat.le_refl _) (bytes_drop hb2 n') with ⟨U, j', hU⟩ | ⟨U, s', j', p, hU, hs2⟩
        · have := scan_ok hab hlen (hR.trans (.tok hnb2 ht2 hU))
          rw [this]
          exact Or.inl rfl
        · have := scan_no hab hlen (hR.trans (.tok hnb2 ht2 hU)) hs2
          obtain ⟨q, q1, _⟩ := hU.place (bytes_drop hb2 n')
          rw [this]
          exact Or.inr ⟨rfl, by show i' + n ≤ j' + p; omega⟩

/-- WHERE A TEXT IS REFUSED, IT WAS RIGHT UP TO THAT PLACE -/
theorem stops_law {l : List Nat} (hl : Bytes l) (h4 : l.length ≤ 4096) (he : (scanN l).2.2 ≠ 0) :
    (scanN l).2.2 = 70 ∧ (scanN l).2.1 ≤ l.length ∧ ((scanN (l.take (scanN l).2.1)).2.2 = 0 ∨ ((scanN (l.take (scanN l).2.1)).2.2 = 70 ∧ (scanN (l.take (scanN l).2.1)).2.1 = (scanN l).2.1)) ∧
    ((scanN l).2.1 ≤ 4093 → ∃ x ∈ endsL, (scanN (l.take (scanN l).2.1 ++ x)).2.2 = 0) := by
  rcases scan_cases hl h4 with ⟨T, i', hT, e⟩ | ⟨T, r', i', n, hT, ⟨h0, hnb, ht⟩, e⟩
  · rw [e] at he; exact absurd rfl he
  · rw [e]
    obtain ⟨m, h1, h2, h3⟩ := hT.place hl
    have hr'b : Bytes r' := by rw [h3]; exact bytes_drop hl m
    obtain ⟨c1, c2, c3⟩ := tok_cut hr'b h0 ht
    have hrl : r'.length = l.length - i' := by rw [h3, List.length_drop]; omega
    have hi : i' ≤ l.length := by omega
    have ecut : ∀ x, l.take (i' + n) ++ x = l.take (i' - 0) ++ (r'.take n ++ x) := fun x => by
      rw [Nat.sub_zero, List.take_add, List.append_assoc, h3, h1, Nat.zero_add]
    have hctx : ∀ x, Bytes x → (n = 0 → x = []) → Run (l.take (i' + n) ++ x) 0 T (r'.take n ++ x) i' := fun x hx hx0 => by
      rw [ecut]
      refine hT.ctx hl _ (bytes_app (bytes_take hr'b n) hx) ?_
      rcases Nat.eq_zero_or_pos n with rfl | hn
      · rw [hx0 rfl, List.take_zero, List.append_nil]
        exact Or.inr (Or.inl rfl)
      · cases r' with
        | nil => exact absurd rfl h0
        | cons c t =>
          obtain ⟨n, rfl⟩ : ∃ k, n = k + 1 := ⟨n - 1, by omega⟩
          left; rfl
    have hnbc : ∀ x, 0 < n → NoBlank (r'.take n ++ x) := fun x hn => by
      cases r' with
      | nil => exact absurd rfl h0
      | cons c t =>
        obtain ⟨n, rfl⟩ : ∃ k, n = k + 1 := ⟨n - 1, by omega⟩
        exact hnb
    have hcb : Bytes (l.take (i' + n)) := bytes_take hl _
    have hcl : (l.take (i' + n)).length = i' + n := by rw [List.length_take]; omega
    refine ⟨rfl, by show i' + n ≤ l.length; omega, ?_, ?_⟩
    · have hR := hctx [] bytes_nil (fun _ => rfl)
      rw [List.append_nil, List.append_nil] at hR
      show (scanN (l.take (i' + n))).2.2 = 0 ∨ _
      rcases c2 with rfl | ⟨t, ht2⟩ | ht2
      · rw [List.take_zero] at hR
        rw [scan_ok hcb (by omega) hR]
        exact Or.inl rfl
      · obtain ⟨k, s, v⟩ := t
        have hb2 := bytes_take hr'b n
        obtain ⟨g1, g2, _⟩ := tok_some hb2 ht2
        have hnb2 := hnbc [] (by omega)
        rw [List.append_nil] at hnb2
        have hd : (r'.take n).drop n = [] := List.drop_of_length_le (by rw [List.length_take]; omega)
        have := scan_ok hcb (by omega) (hR.trans (.tok hnb2 ht2 (by rw [hd]; exact .done _ _)))
        rw [this]
        exact Or.inl rfl
      · rcases Nat.eq_zero_or_pos n with rfl | hn
        · rw [List.take_zero] at hR
          rw [scan_ok hcb (by omega) hR]
          exact Or.inl rfl
        · have hnb2 := hnbc [] hn
          rw [List.append_nil] at hnb2
          have := scan_no hcb (by omega) hR ⟨by
            cases r' with
            | nil => exact absurd rfl h0
            | cons c t =>
              obtain ⟨n, rfl⟩ : ∃ k, n = k + 1 := ⟨n - 1, by omega⟩
              simp, hnb2, ht2⟩
          rw [this]
          exact Or.inr ⟨rfl, rfl⟩
    · intro hle
      have hle' : i' + n ≤ 4093 := hle
      show ∃ x ∈ endsL, (scanN (l.take (i' + n) ++ x)).2.2 = 0
      rcases Nat.eq_zero_or_pos n with rfl | hn
      · refine ⟨[], by simp [endsL], ?_⟩
        have hR := hctx [] bytes_nil (fun _ => rfl)
        rw [List.take_zero, List.append_nil, List.append_nil] at hR
        rw [List.append_nil, scan_ok hcb (by omega) hR]
      · rcases c3 with c3 | ⟨x, hx, t, ht2⟩
        · omega
        · obtain ⟨k, s, v⟩ := t
          have hxb : Bytes x ∧ x.length ≤ 3 := by
            have : ∀ x ∈ endsL, (∀ z ∈ x, z < 256) ∧ x.length ≤ 3 := by decide
            exact this x hx
          have hb2 : Bytes (r'.take n ++ x) := bytes_app (bytes_take hr'b n) hxb.1
          refine ⟨x, hx, ?_⟩
          have hR := hctx x hxb.1 (fun h => by omega)
          have hd : (r'.take n ++ x).drop (n + x.length) = [] := List.drop_of_length_le (by rw [List.length_append, List.length_take]; omega)
          have := scan_ok (bytes_app hcb hxb.1) (by rw [List.length_append, hcl]; omega) (hR.trans (.tok (hnbc x hn) ht2 (by rw [hd]; exact .done _ _)))
          rw [this]

/-- what has been cut can be joined -/
theorem tok_may {r : List Nat} (hr : Bytes r) {k n : Nat} {s : List Nat} {v : Int} (h : tokR r = (some (k, s, v), n)) (p : Int) : mayN ⟨k, s, v, p⟩ = true := by
  cases r with
  | nil => cases h
  | cons c t =>
    by_cases h34 : c = 34
    · subst h34
      rw [tokR_quote] at h
      cases hq : qR t with
      | mk a m =>
        rw [hq] at h
        cases a with
        | none => cases h
        | some s' => cases h; simp [mayN]
    · rw [tokR_step h34, ← step_same] at h
      unfold stepR at h
      generalize lenFrom (c :: t) (c :: t).length 0 = m at h
      cases hw : wholeN ((c :: t).take m) with
      | none => rw [hw] at h; simp at h
      | some q =>
        obtain ⟨k', s', v'⟩ := q
        rw [hw] at h
        simp only at h
        split at h
        · simp at h
        · simp only [Prod.mk.injEq, Option.some.injEq] at h
          obtain ⟨⟨rfl, rfl, rfl⟩, _⟩ := h
          unfold wholeN at hw
          split at hw
          · rename_i u hu
            simp only [Option.some.injEq, Prod.mk.injEq] at hw
            obtain ⟨rfl, rfl, rfl⟩ := hw
            have hok := ok_isNumber hu
            rw [isNumber_ok hok] at hu
            injection hu with hu
            have : 0 ≤ u := by omega
            simp [mayN, this]
          · split at hw
            · rename_i hm
              simp only [Option.some.injEq, Prod.mk.injEq] at hw
              obtain ⟨rfl, rfl, rfl⟩ := hw
              simp [mayN, hm]
            · rename_i hm
              split at hw
              · rename_i hr
                simp only [Option.some.injEq, Prod.mk.injEq] at hw
                obtain ⟨rfl, rfl, rfl⟩ := hw
                simp [mayN, hm, hr]
              · split at hw
                · rename_i hm5
                  simp only [Option.some.injEq, Prod.mk.injEq] at hw
                  obtain ⟨rfl, rfl, rfl⟩ := hw
                  simp [mayN, hm5]
                · cases hw
def TokFit (t : Tok) : Prop := Bytes t.text ∧ -9223372036854775808 ≤ t.num ∧ t.num ≤ 9223372036854775807
theorem run_may {r : List Nat} {i : Nat} {T : List Tok} {r' : List Nat} {i' : Nat} (h : Run r i T r' i') (hr : Bytes r) : (∀ t ∈ T, mayN t = true) ∧ ∀ t ∈ T, TokFit t := by
  induction h with
  | done r i => exact ⟨fun t h => by simp at h, fun t h => by simp at h⟩
  | blank hb h ih => exact ih (fun x hx => hr x (List.mem_cons_of_mem _ hx))
  | @tok r i k s v n T r' i' hnb ht h ih =>
    obtain ⟨h1, h2⟩ := ih (bytes_drop hr n)
    obtain ⟨_, _, g3, _, g5, g6⟩ := tok_some hr ht
    refine ⟨fun t hx => ?_, fun t hx => ?_⟩
    · rcases List.mem_cons.1 hx with rfl | hx
      · exact tok_may hr ht _
      · exact h1 t hx
    · rcases List.mem_cons.1 hx with rfl | hx
      · exact ⟨g3, g5, g6⟩
      · exact h2 t hx
theorem right_parts {s : List Nat} (h : rightN s = true) : ∃ c t, s = c :: t ∧ letterN c = true ∧ s.all furtherN = true ∧ s.length ≤ 32 := by
  cases s with
  | nil => simp [rightN] at h
  | cons c t =>
    simp only [rightN, Bool.and_eq_true, decide_eq_true_eq] at h
    exact ⟨c, t, rfl, h.1.2, h.2, h.1.1⟩
theorem name_read {s y : List Nat} (h : rightN s = true) (hy : y.head? = none ∨ y.head? = some 32 ∨ y.head? = some 10) : tokR (s ++ y) = (some (if s ∈ wordsL then 4 else 3, s, 0), s.length) := by
  obtain ⟨c, t, rfl, h1, h2, h3⟩ := right_parts h
  have hl := letter_cases h1
  have hrun := tw_app (p := furtherN) (c :: t) y h2 (Next.not_further (z := []) (Next.of_blank hy) (fun _ h => by cases h))
  rw [List.cons_append] at hrun ⊢
  rw [tokR_step (by omega), stepP_letter h1, hrun, if_pos h3]
/-- a token that may be is read as it is shown -/
theorem shown_read {t : Tok} (hm : mayN t = true) (hf : TokFit t) {y : List Nat} (hyb : Bytes y) (hy : y.head? = none ∨ y.head? = some 32 ∨ y.head? = some 10) :
    ∃ k : Nat, (k : Int) = t.kind ∧ tokR (shownN t ++ y) = (some (k, t.text, t.num), (shownN t).length) ∧ Bytes (shownN t) ∧ NoBlank (shownN t ++ y) := by
  obtain ⟨k, s, v, p⟩ := t
  obtain ⟨hb, v1, v2⟩ := hf
  dsimp only at hb v1 v2
  unfold mayN at hm
  dsimp only at hm
  unfold shownN
  dsimp only
  by_cases k1 : k = 1
  · rw [if_pos k1, Bool.and_eq_true, decide_eq_true_eq, decide_eq_true_eq] at hm
    obtain ⟨v0, rfl⟩ := hm
    rw [if_pos k1]
    have hs : showN v = dec v.toNat := by unfold showN; rw [if_neg (by omega)]
    rw [hs]
    have hdg := dec_digits v.toNat
    have hne := dec_ne v.toNat
    have hnum := num_digits (dec v.toNat) 0 0 y hdg (by rw [val_dec]; omega) (fun h => by omega) (fun _ => ⟨rfl, fun h => by
      by_cases h0 : v.toNat = 0
      · rw [h0, dec_small (by omega)]; rfl
      · exact absurd h (dec_head _ h0)⟩) hy
    refine ⟨1, by rw [k1]; rfl, ?_, fun x hx => by have := hdg x hx; omega, ?_⟩
    · cases hd : dec v.toNat with
      | nil => exact absurd hd hne
      | cons c u =>
        have hc : 48 ≤ c ∧ c ≤ 57 := hdg c (by rw [hd]; simp)
        rw [hd] at hnum
        rw [List.cons_append] at hnum ⊢
        have hvv : ((v.toNat : Nat) : Int) = v := by omega
        rw [tokR_step (by omega), stepP_digit hc, hnum, ← hd, val_dec]
        simp only [Nat.zero_add, if_true, hvv]
    · cases hd : dec v.toNat with
      | nil => exact absurd hd hne
      | cons c u =>
        have hc : 48 ≤ c ∧ c ≤ 57 := hdg c (by rw [hd]; simp)
        intro d hdd
        rw [List.cons_append] at hdd
        injection hdd with hdd
        omega
  · rw [if_neg k1] at hm ⊢
    by_cases hv : v = 0
    · rw [if_neg (by simpa using hv)] at hm
      subst hv
      by_cases k2 : k = 2
      · rw [if_pos k2]
        refine ⟨2, by rw [k2]; rfl, ?_, quote_bytes hb, fun d hd => ?_⟩
        · unfold quoteN
          rw [List.cons_append, List.cons_append, tokR_quote, List.append_assoc]
          have := qR_of_form s y hb hyb
          rw [List.singleton_append, this]
          simp
        · unfold quoteN at hd
          rw [List.cons_append, List.cons_append] at hd
          injection hd with hd
          omega
      · rw [if_neg k2] at hm ⊢
        have hname : rightN s = true → ((k = 3 ∧ s ∉ wordsL) ∨ (k = 4 ∧ s ∈ wordsL)) → ∃ k' : Nat, (k' : Int) = k ∧ tokR (s ++ y) = (some (k', s, 0), s.length) ∧ Bytes s ∧ NoBlank (s ++ y) := by
          intro hr hk
          refine ⟨if s ∈ wordsL then 4 else 3, ?_, name_read hr hy, hb, ?_⟩
          · rcases hk with ⟨rfl, h⟩ | ⟨rfl, h⟩
            · rw [if_neg h]; rfl
            · rw [if_pos h]; rfl
          · obtain ⟨c, t, rfl, h1, _, _⟩ := right_parts hr
            have := letter_cases h1
            intro d hd
            rw [List.cons_append] at hd
            injection hd with hd
            omega
        by_cases k3 : k = 3
        · rw [if_pos k3, Bool.and_eq_true] at hm
          exact hname hm.1 (Or.inl ⟨k3, by simpa using hm.2⟩)
        · rw [if_neg k3] at hm
          by_cases k4 : k = 4
          · rw [if_pos k4, decide_eq_true_eq] at hm
            exact hname (word_right hm) (Or.inr ⟨k4, hm⟩)
          · rw [if_neg k4] at hm
            by_cases k5 : k = 5
            · rw [if_pos k5, decide_eq_true_eq] at hm
              have hM : markN (s ++ []) = (s, s.length) := by
                have : ∀ m ∈ marksL, markN (m ++ []) = (m, m.length) := by decide
                exact this s hm
              have hM2 := mark_local hM hm (y := y) (Next.of_blank hy)
              have hc : ∃ c t, s = c :: t ∧ ¬ (48 ≤ c ∧ c ≤ 57) ∧ ¬ letterN c = true ∧ c ≠ 34 ∧ ¬ (c = 32 ∨ c = 10) := by
                have : ∀ m ∈ marksL, m ≠ [] ∧ ∀ c ∈ m.head?, ¬ (48 ≤ c ∧ c ≤ 57) ∧ ¬ letterN c = true ∧ c ≠ 34 ∧ ¬ (c = 32 ∨ c = 10) := by decide
                have := this s hm
                cases s with
                | nil => exact absurd rfl this.1
                | cons c t => exact ⟨c, t, rfl, this.2 c rfl⟩
              obtain ⟨c, t, rfl, g1, g2, g3, g4⟩ := hc
              refine ⟨5, by rw [k5]; rfl, ?_, hb, fun d hd => ?_⟩
              · rw [List.cons_append] at hM2 ⊢
                rw [tokR_step g3, stepP_mark g1 g2, hM2, if_neg (by simp)]
              · rw [List.cons_append] at hd
                injection hd with hd
                subst hd
                exact g4
            · rw [if_neg k5] at hm; cases hm
    · rw [if_pos (by simpa using hv)] at hm; cases hm
/-- the whole text behind what there is, as a tail -/
def joinTail (first : Bool) : List Tok → List Nat
  | [] => []
  | t :: r => (if first then [] else [32]) ++ (shownN t ++ joinTail false r)
theorem joinAll_tail : ∀ (l : List Tok) (o : List Nat) (b : Bool), joinAll o b l = o ++ joinTail b l
  | [], o, b => by simp [joinAll, joinTail]
  | t :: r, o, b => by
    rw [joinAll_cons, joinAll_tail r, joinTail]
    cases b <;> simp
theorem join_run : ∀ (l : List Tok) (b : Bool) (i : Nat), (∀ t ∈ l, mayN t = true) → (∀ t ∈ l, TokFit t) → Bytes (joinTail b l) ∧ (b = false → (joinTail b l).head? = none ∨ (joinTail b l).head? = some 32 ∨ (joinTail b l).head? = some 10) ∧ ∃ T i', Run (joinTail b l) i T [] i' ∧ eqBy (fun a c => decide (a.kind = c.kind) && (decide (a.text = c.text) && decide (a.num = c.num))) l T = true
  | [], b, i, _, _ => ⟨bytes_nil, fun _ => Or.inl rfl, [], i, .done _ _, rfl⟩
  | t :: r, b, i, hm, hf => by
    obtain ⟨h1, h2, _⟩ := join_run r false 0 (fun x hx => hm x (List.mem_cons_of_mem _ hx)) (fun x hx => hf x (List.mem_cons_of_mem _ hx))
    obtain ⟨k, g1, g2, g3, g4⟩ := shown_read (hm t (by simp)) (hf t (by simp)) h1 (h2 rfl)
    have key : ∀ j, ∃ T i', Run (shownN t ++ joinTail false r) j T [] i' ∧ eqBy (fun a c => decide (a.kind = c.kind) && (decide (a.text = c.text) && decide (a.num = c.num))) (t :: r) T = true := by
      intro j
      obtain ⟨_, _, T, i', h3, h4⟩ := join_run r false (j + (shownN t).length) (fun x hx => hm x (List.mem_cons_of_mem _ hx)) (fun x hx => hf x (List.mem_cons_of_mem _ hx))
      refine ⟨_, i', .tok g4 g2 (by rw [List.drop_left]; exact h3), ?_⟩
      simp only [eqBy, h4, Bool.and_true]
      simp [g1]
    have hb2 := bytes_app g3 h1
    cases b with
    | true =>
      refine ⟨hb2, (fun h => by cases h), ?_⟩
      show ∃ T i', Run ([] ++ (shownN t ++ joinTail false r)) i T [] i' ∧ _
      rw [List.nil_append]
      exact key i
    | false =>
      refine ⟨bytes_cons (by omega) hb2, fun _ => Or.inr (Or.inl rfl), ?_⟩
      obtain ⟨T, i', h5, h6⟩ := key (i + 1)
      exact ⟨T, i', .blank (Or.inl rfl) h5, h6⟩
/-- TOKENS THAT ARE JOINED ARE CUT AGAIN AS THEY WERE -/
theorem back_law {l : List Tok} (hf : ∀ t ∈ l, TokFit t) (h : (joinN l).2 = 0) : Bytes (joinN l).1 ∧ (joinN l).1.length ≤ 4096 ∧ ∃ T, scanN (joinN l).1 = (T, 0, 0) ∧ eqBy (fun a c => decide (a.kind = c.kind) && (decide (a.text = c.text) && decide (a.num = c.num))) l T = true := by
  unfold joinN at h ⊢
  split at h
  · rename_i ha
    rw [if_pos ha]
    split at h
    · simp at h
    · rename_i hl
      rw [if_neg hl]
      rw [joinAll_tail, List.nil_append] at hl ⊢
      obtain ⟨h1, _, T, i', h2, h3⟩ := join_run l true 0 (List.all_eq_true.1 ha) hf
      exact ⟨h1, by show (joinTail true l).length ≤ 4096; omega, T, scan_ok h1 (by omega) h2, h3⟩
  · simp at h
theorem scan_back {l : List Nat} (hl : Bytes l) : ((scanN l).2.2 = 0 → (scanN l).1.all mayN = true ∧ ∀ t ∈ (scanN l).1, TokFit t) ∧ ((scanN l).2.2 ≠ 0 → (scanN l).1 = [] ∧ ((scanN l).2.2 = 70 ∨ (scanN l).2.2 = 3)) := by
  by_cases h4 : l.length ≤ 4096
  · rcases scan_cases hl h4 with ⟨T, i', hT, e⟩ | ⟨T, r', i', n, hT, hs, e⟩
    · rw [e]
      obtain ⟨h1, h2⟩ := run_may hT hl
      exact ⟨fun _ => ⟨List.all_eq_true.2 h1, h2⟩, fun h => absurd rfl h⟩
    · rw [e]
      exact ⟨fun h => absurd h (by simp), fun _ => ⟨rfl, Or.inl rfl⟩⟩
  · have e : scanN l = ([], 0, 3) := by unfold scanN; rw [if_pos (by omega)]
    rw [e]
    exact ⟨fun h => absurd h (by simp), fun _ => ⟨rfl, Or.inr rfl⟩⟩
end Go.Proofs.YtlenenfgedgmhaaDoor
