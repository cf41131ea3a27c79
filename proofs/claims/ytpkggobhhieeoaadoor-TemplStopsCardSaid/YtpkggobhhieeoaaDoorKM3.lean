/- - - - - -/
import Derived.Test.YtpkggobhhieeoaaDoorKM2
set_option maxRecDepth 100000
set_option maxHeartbeats 32000000
set_option linter.unusedSimpArgs false
set_option linter.unusedVariables false
namespace Go.Proofs.YtpkggobhhieeoaaDoor
theorem unq_some : ∀ (f i : Nat) (l o s : List Nat) (k : Nat), Bytes l → Bytes o → unq l f i o = (s, k, 0) → Bytes s ∧ i < k ∧ k ≤ l.length
  | 0, i, l, o, s, k, _, _, h => by simp [unq] at h
  | f + 1, i, l, o, s, k, hl, ho, h => by
    rw [unq] at h
    split at h
    · rename_i hi
      injection h with h1 h2
      injection h2 with h2 _
      subst h1 h2
      exact ⟨ho, by omega, (List.getElem?_eq_some_iff.1 hi).1⟩
    · rename_i hi
      split at h
      · rename_i c n m hone
        have hd : Bytes (l.drop i) := fun x hx => hl x (List.mem_of_mem_drop hx)
        obtain ⟨c1, c2, _⟩ := one_some hd (by rw [List.head?_drop]; exact hi) hone
        have := (form_len c).1
        obtain ⟨a1, a2, a3⟩ := unq_some f (i + n) l (o ++ [c]) s k hl (bytes_app ho (fun x hx => by simp at hx; omega)) h
        exact ⟨a1, by omega, a3⟩
      · simp at h
theorem unq_err : ∀ (f i : Nat) (l o s : List Nat) (k e : Nat), unq l f i o = (s, k, e) → e ≠ 0 → e = 10
  | 0, i, l, o, s, k, e, h, _ => by simp [unq] at h; omega
  | f + 1, i, l, o, s, k, e, h, he => by
    rw [unq] at h
    split at h
    · simp at h; omega
    · split at h
      · exact unq_err f _ l _ s k e h he
      · simp at h; omega
def quoteAt (l : List Nat) (i : Nat) : List Nat × Nat × Nat := unq l (l.length + 1) (i + 1) []
theorem unquote_at {l : List Nat} {i : Nat} (h : l[i]? = some 34) : unquoteN l i = ((quoteAt l i).1, ((quoteAt l i).2.1 : Int), (quoteAt l i).2.2) := by
  have := (List.getElem?_eq_some_iff.1 h).1
  unfold unquoteN quoteAt
  rw [if_neg (by omega), Int.toNat_natCast, if_neg (by rw [h]; simp)]
def scanT (l : List Nat) : Nat → Nat → List Tok → List Tok × Nat × Nat
  | 0, _, out => (out, 0, 0)
  | f + 1, i, out => match l[i]? with
    | none => (out, 0, 0)
    | some c =>
      if c = 32 ∨ c = 10 then scanT l f (i + 1) out
      else if c = 34 then (if (quoteAt l i).2.2 = 0 then scanT l f (quoteAt l i).2.1 (out ++ [⟨2, (quoteAt l i).1, 0, i⟩]) else ([], (quoteAt l i).2.1, 70))
      else match (stepP (l.drop i)).1 with
        | some (k, s, v) => scanT l f (i + (stepP (l.drop i)).2) (out ++ [⟨k, s, v, i⟩])
        | none => ([], i + (stepP (l.drop i)).2, 70)
def scanN (l : List Nat) : List Tok × Nat × Nat := if 4096 < l.length then ([], 0, 3) else scanT l (l.length + 1) 0 []
theorem scan_end {l : List Nat} {f i : Nat} {o : List Tok} {R : List Tok × Nat × Nat} (h : scanT l f i o = R) (hi : l.length ≤ i) : R = (o, 0, 0) := by
  cases f with
  | zero => exact h.symm
  | succ f => rw [scanT, List.getElem?_eq_none hi] at h; exact h.symm
theorem scan_blank {l : List Nat} {f i c : Nat} {o : List Tok} {R : List Tok × Nat × Nat} (h : scanT l f i o = R) (hf : 1 ≤ f) (hi : l[i]? = some c) (hc : c = 32 ∨ c = 10) : scanT l (f - 1) (i + 1) o = R := by
  obtain ⟨f, rfl⟩ : ∃ g, f = g + 1 := ⟨f - 1, by omega⟩
  rw [scanT, hi] at h
  simp only at h
  rw [if_pos hc] at h
  exact h
theorem scan_quote {l : List Nat} {f i k : Nat} {s : List Nat} {o : List Tok} {R : List Tok × Nat × Nat} (h : scanT l f i o = R) (hf : 1 ≤ f) (hi : l[i]? = some 34) (hq : quoteAt l i = (s, k, 0)) : scanT l (f - 1) k (o ++ [⟨2, s, 0, i⟩]) = R := by
  obtain ⟨f, rfl⟩ : ∃ g, f = g + 1 := ⟨f - 1, by omega⟩
  rw [scanT, hi] at h
  simp only at h
  rw [if_neg (by omega), if_pos trivial, hq, if_pos rfl] at h
  exact h
theorem scan_quote_no {l : List Nat} {f i k e : Nat} {s : List Nat} {o : List Tok} {R : List Tok × Nat × Nat} (h : scanT l f i o = R) (hf : 1 ≤ f) (hi : l[i]? = some 34) (hq : quoteAt l i = (s, k, e)) (he : e ≠ 0) : R = ([], k, 70) := by
  obtain ⟨f, rfl⟩ : ∃ g, f = g + 1 := ⟨f - 1, by omega⟩
  rw [scanT, hi] at h
  simp only at h
  rw [if_neg (by omega), if_pos trivial, hq, if_neg he] at h
  exact h.symm
theorem scan_step {l : List Nat} {f i c k n : Nat} {s : List Nat} {v : Int} {o : List Tok} {R : List Tok × Nat × Nat} (h : scanT l f i o = R) (hf : 1 ≤ f) (hi : l[i]? = some c) (hc : ¬ (c = 32 ∨ c = 10)) (hq : c ≠ 34) (hs : stepP (l.drop i) = (some (k, s, v), n)) : scanT l (f - 1) (i + n) (o ++ [⟨k, s, v, i⟩]) = R := by
  obtain ⟨f, rfl⟩ : ∃ g, f = g + 1 := ⟨f - 1, by omega⟩
  rw [scanT, hi] at h
  simp only at h
  rw [if_neg hc, if_neg hq, hs] at h
  exact h
theorem scan_step_no {l : List Nat} {f i c n : Nat} {o : List Tok} {R : List Tok × Nat × Nat} (h : scanT l f i o = R) (hf : 1 ≤ f) (hi : l[i]? = some c) (hc : ¬ (c = 32 ∨ c = 10)) (hq : c ≠ 34) (hs : stepP (l.drop i) = (none, n)) : R = ([], i + n, 70) := by
  obtain ⟨f, rfl⟩ : ∃ g, f = g + 1 := ⟨f - 1, by omega⟩
  rw [scanT, hi] at h
  simp only at h
  rw [if_neg hc, if_neg hq, hs] at h
  exact h.symm
theorem lenFrom_le (r : List Nat) : ∀ (f k : Nat), k ≤ r.length → lenFrom r f k ≤ r.length
  | 0, k, h => h
  | f + 1, k, h => by
    simp only [lenFrom]
    split
    · exact lenFrom_le r f (k + 1) (by omega)
    · exact h
theorem step_some {r : List Nat} {k n : Nat} {s : List Nat} {v : Int} (hr : Bytes r) (h : stepP r = (some (k, s, v), n)) : 1 ≤ n ∧ n ≤ r.length ∧ Bytes s ∧ k < 6 ∧ -9223372036854775808 ≤ v ∧ v ≤ 9223372036854775807 := by
  rw [← step_same] at h
  unfold stepR at h
  have hle := lenFrom_le r r.length 0 (Nat.zero_le _)
  generalize lenFrom r r.length 0 = m at h hle
  cases hw : wholeN (r.take m) with
  | none => rw [hw] at h; simp at h
  | some t =>
    obtain ⟨k', s', v'⟩ := t
    rw [hw] at h
    simp only at h
    split at h
    · simp at h
    · simp only [Prod.mk.injEq, Option.some.injEq] at h
      obtain ⟨⟨rfl, rfl, rfl⟩, rfl⟩ := h
      have h0 : m ≠ 0 := by
        rintro rfl
        rw [List.take_zero, whole_nil] at hw
        cases hw
      have hb : Bytes (r.take m) := fun x hx => hr x (List.mem_of_mem_take hx)
      refine ⟨by omega, hle, ?_⟩
      unfold wholeN at hw
      split at hw
      · rename_i u hu
        simp only [Option.some.injEq, Prod.mk.injEq] at hw
        obtain ⟨rfl, rfl, rfl⟩ := hw
        have hok := ok_isNumber hu
        rw [isNumber_ok hok] at hu
        injection hu with hu
        refine ⟨bytes_nil, by omega, ?_⟩
        have := hok.2.2.2
        omega
      · split at hw
        · simp only [Option.some.injEq, Prod.mk.injEq] at hw
          obtain ⟨rfl, rfl, rfl⟩ := hw
          exact ⟨hb, by omega, by omega⟩
        · split at hw
          · simp only [Option.some.injEq, Prod.mk.injEq] at hw
            obtain ⟨rfl, rfl, rfl⟩ := hw
            exact ⟨hb, by omega, by omega⟩
          · split at hw
            · simp only [Option.some.injEq, Prod.mk.injEq] at hw
              obtain ⟨rfl, rfl, rfl⟩ := hw
              exact ⟨hb, by omega, by omega⟩
            · cases hw
end Go.Proofs.YtpkggobhhieeoaaDoor
namespace Go.Proofs.YtpkggobhhieeoaaDoor
open Go.RowKit
theorem lex_letter_any (n : Nat) (w : World) : Calls Tryd.prog 75 #[.int .u8 (n : Int)] w fun e w' => e = .returned (.bool (letterN n)) ∧ Quiet w w' := by
  by_cases h1 : 65 ≤ n
  · by_cases h2 : n ≤ 90
    · have hv : letterN n = true := by simp [letterN]; omega
      rw [hv]; clear hv
      go_enter Tryd.func75, Tryd.ntmps75
      go_wp2_with fail
      go_ret
      exact ⟨rfl, Quiet.refl _⟩
    · have a2 : decide ((n : Int) ≤ 90) = false := by simp; omega
      by_cases h3 : 97 ≤ n
      · by_cases h4 : n ≤ 122
        · have hv : letterN n = true := by simp [letterN]; omega
          have a4 : decide ((n : Int) ≤ 122) = true := by simp; omega
          rw [hv]; clear hv
          go_enter Tryd.func75, Tryd.ntmps75
          go_wp2_with fail
          go_ret
          exact ⟨rfl, Quiet.refl _⟩
        · have hv : letterN n = false := by simp [letterN]; omega
          have a4 : decide ((n : Int) ≤ 122) = false := by simp; omega
          rw [hv]; clear hv
          go_enter Tryd.func75, Tryd.ntmps75
          go_wp2_with fail
          go_ret
          exact ⟨rfl, Quiet.refl _⟩
      · have hv : letterN n = false := by simp [letterN]; omega
        have a3 : decide (97 ≤ (n : Int)) = false := by simp; omega
        rw [hv]; clear hv
        go_enter Tryd.func75, Tryd.ntmps75
        go_wp2_with fail
        go_ret
        exact ⟨rfl, Quiet.refl _⟩
  · have hv : letterN n = false := by simp [letterN]; omega
    have a1 : decide (65 ≤ (n : Int)) = false := by simp; omega
    have a3 : decide (97 ≤ (n : Int)) = false := by simp; omega
    have h3 : ¬ 97 ≤ n := by omega
    rw [hv]; clear hv
    go_enter Tryd.func75, Tryd.ntmps75
    go_wp2_with fail
    go_ret
    exact ⟨rfl, Quiet.refl _⟩
theorem lex_letter (n : Nat) (b : Bool) (hb : letterN n = b) (w : World) : Calls Tryd.prog 75 #[.int .u8 (n : Int)] w fun e w' => e = .returned (.bool b) ∧ Quiet w w' := hb ▸ lex_letter_any n w
def figN (n : Nat) : Bool := decide (48 ≤ n ∧ n ≤ 57)
theorem lex_digit_any (n : Nat) (w : World) : Calls Tryd.prog 73 #[.int .u8 (n : Int)] w fun e w' => e = .returned (.bool (figN n)) ∧ Quiet w w' := by
  by_cases h1 : 48 ≤ n
  · by_cases h2 : n ≤ 57
    · have hv : figN n = true := by simp [figN]; omega
      have a2 : decide ((n : Int) ≤ 57) = true := by simp; omega
      rw [hv]; clear hv
      go_enter Tryd.func73, Tryd.ntmps73
      go_wp2_with fail
      go_ret
      exact ⟨rfl, Quiet.refl _⟩
    · have hv : figN n = false := by simp [figN]; omega
      have a2 : decide ((n : Int) ≤ 57) = false := by simp; omega
      rw [hv]; clear hv
      go_enter Tryd.func73, Tryd.ntmps73
      go_wp2_with fail
      go_ret
      exact ⟨rfl, Quiet.refl _⟩
  · have hv : figN n = false := by simp [figN]; omega
    have a1 : decide (48 ≤ (n : Int)) = false := by simp; omega
    rw [hv]; clear hv
    go_enter Tryd.func73, Tryd.ntmps73
    go_wp2_with fail
    go_ret
    exact ⟨rfl, Quiet.refl _⟩
theorem lex_digit (n : Nat) (b : Bool) (hb : figN n = b) (w : World) : Calls Tryd.prog 73 #[.int .u8 (n : Int)] w fun e w' => e = .returned (.bool b) ∧ Quiet w w' := hb ▸ lex_digit_any n w
theorem lex_further_any (n : Nat) (w : World) : Calls Tryd.prog 72 #[.int .u8 (n : Int)] w fun e w' => e = .returned (.bool (furtherN n)) ∧ Quiet w w' := by
  rcases hl : letterN n with _ | _
  · rcases hd : figN n with _ | _
    · have hd' : ¬ (48 ≤ n ∧ n ≤ 57) := by simpa [figN] using hd
      have hv : furtherN n = decide ((n : Int) = 95) := by
        unfold furtherN
        rw [hl, Bool.false_or, decide_eq_decide]
        omega
      have L := zH (fun W => lex_letter n false hl W)
      have G := zH (fun W => lex_digit n false hd W)
      by_cases h95 : n = 95
      · subst h95
        rw [hv]; clear hv hl hd hd'
        go_enter Tryd.func72, Tryd.ntmps72
        go_wp2_with (first | (go_at_call 75; refine (L.out _).mono ?_; rintro e w1 ⟨rfl, q1⟩) | (go_at_call 73; refine (G.out _).mono ?_; rintro e w2 ⟨rfl, q2⟩))
        go_ret
        exact ⟨rfl, q1.trans q2⟩
      · have hw : decide ((n : Int) = 95) = false := by simp; omega
        have e1 : ((n : Int) == 95) = false := by simp; omega
        rw [hv, hw]; clear hv hw hl hd hd'
        go_enter Tryd.func72, Tryd.ntmps72
        go_wp2_with (first | (go_at_call 75; refine (L.out _).mono ?_; rintro e w1 ⟨rfl, q1⟩) | (go_at_call 73; refine (G.out _).mono ?_; rintro e w2 ⟨rfl, q2⟩))
        go_ret
        exact ⟨rfl, q1.trans q2⟩
    · have hd' : 48 ≤ n ∧ n ≤ 57 := by simpa [figN] using hd
      have hv : furtherN n = true := by
        unfold furtherN
        rw [hl, Bool.false_or, decide_eq_true (Or.inl hd')]
      have L := zH (fun W => lex_letter n false hl W)
      have G := zH (fun W => lex_digit n true hd W)
      rw [hv]; clear hv hl hd hd'
      go_enter Tryd.func72, Tryd.ntmps72
      go_wp2_with (first | (go_at_call 75; refine (L.out _).mono ?_; rintro e w1 ⟨rfl, q1⟩) | (go_at_call 73; refine (G.out _).mono ?_; rintro e w2 ⟨rfl, q2⟩))
      go_ret
      exact ⟨rfl, q1.trans q2⟩
  · have hv : furtherN n = true := by unfold furtherN; rw [hl]; rfl
    have L := zH (fun W => lex_letter n true hl W)
    rw [hv]; clear hv hl
    go_enter Tryd.func72, Tryd.ntmps72
    go_wp2_with (go_at_call 75; refine (L.out _).mono ?_; rintro e w1 ⟨rfl, q1⟩)
    go_ret
    exact ⟨rfl, q1⟩
theorem lex_further (n : Nat) (b : Bool) (hb : furtherN n = b) (w : World) : Calls Tryd.prog 72 #[.int .u8 (n : Int)] w fun e w' => e = .returned (.bool b) ∧ Quiet w w' := hb ▸ lex_further_any n w
theorem lex_reserved_any (s : ByteArray) (w : World) : Calls Tryd.prog 76 #[.string s] w fun e w' => e = .returned (.bool (decide (bs s ∈ wordsL))) ∧ Quiet w w' := by
  by_cases hm : bs s ∈ wordsL
  · have hv : decide (bs s ∈ wordsL) = true := decide_eq_true hm
    rw [hv]
    clear hv
    simp only [wordsL, List.mem_cons, List.not_mem_nil, or_false] at hm
    rcases hm with hm | hm | hm | hm | hm | hm | hm | hm | hm | hm | hm | hm | hm | hm | hm | hm | hm | hm | hm | hm | hm | hm
    · have hs : s = ⟨#[97, 110, 100]⟩ := bs_inj (hm.trans rfl)
      subst hs
      clear hm
      go_enter Tryd.func76, Tryd.ntmps76
      go_wp2_with fail
      go_ret
      exact ⟨rfl, Quiet.refl _⟩
    · have hs : s = ⟨#[97, 110, 121]⟩ := bs_inj (hm.trans rfl)
      subst hs
      clear hm
      go_enter Tryd.func76, Tryd.ntmps76
      go_wp2_with fail
      go_ret
      exact ⟨rfl, Quiet.refl _⟩
    · have hs : s = ⟨#[99, 111, 110, 99, 101, 112, 116]⟩ := bs_inj (hm.trans rfl)
      subst hs
      clear hm
      go_enter Tryd.func76, Tryd.ntmps76
      go_wp2_with fail
      go_ret
      exact ⟨rfl, Quiet.refl _⟩
    · have hs : s = ⟨#[101, 108, 115, 101]⟩ := bs_inj (hm.trans rfl)
      subst hs
      clear hm
      go_enter Tryd.func76, Tryd.ntmps76
      go_wp2_with fail
      go_ret
      exact ⟨rfl, Quiet.refl _⟩
    · have hs : s = ⟨#[101, 110, 100]⟩ := bs_inj (hm.trans rfl)
      subst hs
      clear hm
      go_enter Tryd.func76, Tryd.ntmps76
      go_wp2_with fail
      go_ret
      exact ⟨rfl, Quiet.refl _⟩
    · have hs : s = ⟨#[101, 118, 101, 114, 121]⟩ := bs_inj (hm.trans rfl)
      subst hs
      clear hm
      go_enter Tryd.func76, Tryd.ntmps76
      go_wp2_with fail
      go_ret
      exact ⟨rfl, Quiet.refl _⟩
    · have hs : s = ⟨#[102, 97, 108, 115, 101]⟩ := bs_inj (hm.trans rfl)
      subst hs
      clear hm
      go_enter Tryd.func76, Tryd.ntmps76
      go_wp2_with fail
      go_ret
      exact ⟨rfl, Quiet.refl _⟩
    · have hs : s = ⟨#[102, 105, 114, 115, 116]⟩ := bs_inj (hm.trans rfl)
      subst hs
      clear hm
      go_enter Tryd.func76, Tryd.ntmps76
      go_wp2_with fail
      go_ret
      exact ⟨rfl, Quiet.refl _⟩
    · have hs : s = ⟨#[105, 100]⟩ := bs_inj (hm.trans rfl)
      subst hs
      clear hm
      go_enter Tryd.func76, Tryd.ntmps76
      go_wp2_with fail
      go_ret
      exact ⟨rfl, Quiet.refl _⟩
    · have hs : s = ⟨#[105, 102]⟩ := bs_inj (hm.trans rfl)
      subst hs
      clear hm
      go_enter Tryd.func76, Tryd.ntmps76
      go_wp2_with fail
      go_ret
      exact ⟨rfl, Quiet.refl _⟩
    · have hs : s = ⟨#[105, 110]⟩ := bs_inj (hm.trans rfl)
      subst hs
      clear hm
      go_enter Tryd.func76, Tryd.ntmps76
      go_wp2_with fail
      go_ret
      exact ⟨rfl, Quiet.refl _⟩
    · have hs : s = ⟨#[105, 110, 116]⟩ := bs_inj (hm.trans rfl)
      subst hs
      clear hm
      go_enter Tryd.func76, Tryd.ntmps76
      go_wp2_with fail
      go_ret
      exact ⟨rfl, Quiet.refl _⟩
    · have hs : s = ⟨#[110, 111, 110, 101]⟩ := bs_inj (hm.trans rfl)
      subst hs
      clear hm
      go_enter Tryd.func76, Tryd.ntmps76
      go_wp2_with fail
      go_ret
      exact ⟨rfl, Quiet.refl _⟩
    · have hs : s = ⟨#[110, 111, 116]⟩ := bs_inj (hm.trans rfl)
      subst hs
      clear hm
      go_enter Tryd.func76, Tryd.ntmps76
      go_wp2_with fail
      go_ret
      exact ⟨rfl, Quiet.refl _⟩
    · have hs : s = ⟨#[111, 110, 108, 121]⟩ := bs_inj (hm.trans rfl)
      subst hs
      clear hm
      go_enter Tryd.func76, Tryd.ntmps76
      go_wp2_with fail
      go_ret
      exact ⟨rfl, Quiet.refl _⟩
    · have hs : s = ⟨#[111, 114]⟩ := bs_inj (hm.trans rfl)
      subst hs
      clear hm
      go_enter Tryd.func76, Tryd.ntmps76
      go_wp2_with fail
      go_ret
      exact ⟨rfl, Quiet.refl _⟩
    · have hs : s = ⟨#[115, 101, 108, 102]⟩ := bs_inj (hm.trans rfl)
      subst hs
      clear hm
      go_enter Tryd.func76, Tryd.ntmps76
      go_wp2_with fail
      go_ret
      exact ⟨rfl, Quiet.refl _⟩
    · have hs : s = ⟨#[115, 105, 122, 101]⟩ := bs_inj (hm.trans rfl)
      subst hs
      clear hm
      go_enter Tryd.func76, Tryd.ntmps76
      go_wp2_with fail
      go_ret
      exact ⟨rfl, Quiet.refl _⟩
    · have hs : s = ⟨#[115, 117, 109]⟩ := bs_inj (hm.trans rfl)
      subst hs
      clear hm
      go_enter Tryd.func76, Tryd.ntmps76
      go_wp2_with fail
      go_ret
      exact ⟨rfl, Quiet.refl _⟩
    · have hs : s = ⟨#[116, 101, 120, 116]⟩ := bs_inj (hm.trans rfl)
      subst hs
      clear hm
      go_enter Tryd.func76, Tryd.ntmps76
      go_wp2_with fail
      go_ret
      exact ⟨rfl, Quiet.refl _⟩
    · have hs : s = ⟨#[116, 104, 101, 110]⟩ := bs_inj (hm.trans rfl)
      subst hs
      clear hm
      go_enter Tryd.func76, Tryd.ntmps76
      go_wp2_with fail
      go_ret
      exact ⟨rfl, Quiet.refl _⟩
    · have hs : s = ⟨#[116, 114, 117, 101]⟩ := bs_inj (hm.trans rfl)
      subst hs
      clear hm
      go_enter Tryd.func76, Tryd.ntmps76
      go_wp2_with fail
      go_ret
      exact ⟨rfl, Quiet.refl _⟩
  · have hv : decide (bs s ∈ wordsL) = false := decide_eq_false hm
    rw [hv]
    clear hv
    simp only [wordsL, List.mem_cons, List.not_mem_nil, or_false, not_or] at hm
    obtain ⟨h0, h1, h2, h3, h4, h5, h6, h7, h8, h9, h10, h11, h12, h13, h14, h15, h16, h17, h18, h19, h20, h21⟩ := hm
    have g0 : ¬ s.toList = [97, 110, 100] := fun e => h0 (by rw [(toList_inj s ⟨#[97, 110, 100]⟩).1 (e.trans (by rw [ByteArray.toList_eq]))]; rfl)
    have k0 : (s.toList == [97, 110, 100]) = false := by rw [beq_eq_false_iff_ne]; exact g0
    have g1 : ¬ s.toList = [97, 110, 121] := fun e => h1 (by rw [(toList_inj s ⟨#[97, 110, 121]⟩).1 (e.trans (by rw [ByteArray.toList_eq]))]; rfl)
    have k1 : (s.toList == [97, 110, 121]) = false := by rw [beq_eq_false_iff_ne]; exact g1
    have g2 : ¬ s.toList = [99, 111, 110, 99, 101, 112, 116] := fun e => h2 (by rw [(toList_inj s ⟨#[99, 111, 110, 99, 101, 112, 116]⟩).1 (e.trans (by rw [ByteArray.toList_eq]))]; rfl)
    have k2 : (s.toList == [99, 111, 110, 99, 101, 112, 116]) = false := by rw [beq_eq_false_iff_ne]; exact g2
    have g3 : ¬ s.toList = [101, 108, 115, 101] := fun e => h3 (by rw [(toList_inj s ⟨#[101, 108, 115, 101]⟩).1 (e.trans (by rw [ByteArray.toList_eq]))]; rfl)
    have k3 : (s.toList == [101, 108, 115, 101]) = false := by rw [beq_eq_false_iff_ne]; exact g3
    have g4 : ¬ s.toList = [101, 110, 100] := fun e => h4 (by rw [(toList_inj s ⟨#[101, 110, 100]⟩).1 (e.trans (by rw [ByteArray.toList_eq]))]; rfl)
    have k4 : (s.toList == [101, 110, 100]) = false := by rw [beq_eq_false_iff_ne]; exact g4
    have g5 : ¬ s.toList = [101, 118, 101, 114, 121] := fun e => h5 (by rw [(toList_inj s ⟨#[101, 118, 101, 114, 121]⟩).1 (e.trans (by rw [ByteArray.toList_eq]))]; rfl)
    have k5 : (s.toList == [101, 118, 101, 114, 121]) = false := by rw [beq_eq_false_iff_ne]; exact g5
    have g6 : ¬ s.toList = [102, 97, 108, 115, 101] := fun e => h6 (by rw [(toList_inj s ⟨#[102, 97, 108, 115, 101]⟩).1 (e.trans (by rw [ByteArray.toList_eq]))]; rfl)
    have k6 : (s.toList == [102, 97, 108, 115, 101]) = false := by rw [beq_eq_false_iff_ne]; exact g6
    have g7 : ¬ s.toList = [102, 105, 114, 115, 116] := fun e => h7 (by rw [(toList_inj s ⟨#[102, 105, 114, 115, 116]⟩).1 (e.trans (by rw [ByteArray.toList_eq]))]; rfl)
    have k7 : (s.toList == [102, 105, 114, 115, 116]) = false := by rw [beq_eq_false_iff_ne]; exact g7
    have g8 : ¬ s.toList = [105, 100] := fun e => h8 (by rw [(toList_inj s ⟨#[105, 100]⟩).1 (e.trans (by rw [ByteArray.toList_eq]))]; rfl)
    have k8 : (s.toList == [105, 100]) = false := by rw [beq_eq_false_iff_ne]; exact g8
    have g9 : ¬ s.toList = [105, 102] := fun e => h9 (by rw [(toList_inj s ⟨#[105, 102]⟩).1 (e.trans (by rw [ByteArray.toList_eq]))]; rfl)
    have k9 : (s.toList == [105, 102]) = false := by rw [beq_eq_false_iff_ne]; exact g9
    have g10 : ¬ s.toList = [105, 110] := fun e => h10 (by rw [(toList_inj s ⟨#[105, 110]⟩).1 (e.trans (by rw [ByteArray.toList_eq]))]; rfl)
    have k10 : (s.toList == [105, 110]) = false := by rw [beq_eq_false_iff_ne]; exact g10
    have g11 : ¬ s.toList = [105, 110, 116] := fun e => h11 (by rw [(toList_inj s ⟨#[105, 110, 116]⟩).1 (e.trans (by rw [ByteArray.toList_eq]))]; rfl)
    have k11 : (s.toList == [105, 110, 116]) = false := by rw [beq_eq_false_iff_ne]; exact g11
    have g12 : ¬ s.toList = [110, 111, 110, 101] := fun e => h12 (by rw [(toList_inj s ⟨#[110, 111, 110, 101]⟩).1 (e.trans (by rw [ByteArray.toList_eq]))]; rfl)
    have k12 : (s.toList == [110, 111, 110, 101]) = false := by rw [beq_eq_false_iff_ne]; exact g12
    have g13 : ¬ s.toList = [110, 111, 116] := fun e => h13 (by rw [(toList_inj s ⟨#[110, 111, 116]⟩).1 (e.trans (by rw [ByteArray.toList_eq]))]; rfl)
    have k13 : (s.toList == [110, 111, 116]) = false := by rw [beq_eq_false_iff_ne]; exact g13
    have g14 : ¬ s.toList = [111, 110, 108, 121] := fun e => h14 (by rw [(toList_inj s ⟨#[111, 110, 108, 121]⟩).1 (e.trans (by rw [ByteArray.toList_eq]))]; rfl)
    have k14 : (s.toList == [111, 110, 108, 121]) = false := by rw [beq_eq_false_iff_ne]; exact g14
    have g15 : ¬ s.toList = [111, 114] := fun e => h15 (by rw [(toList_inj s ⟨#[111, 114]⟩).1 (e.trans (by rw [ByteArray.toList_eq]))]; rfl)
    have k15 : (s.toList == [111, 114]) = false := by rw [beq_eq_false_iff_ne]; exact g15
    have g16 : ¬ s.toList = [115, 101, 108, 102] := fun e => h16 (by rw [(toList_inj s ⟨#[115, 101, 108, 102]⟩).1 (e.trans (by rw [ByteArray.toList_eq]))]; rfl)
    have k16 : (s.toList == [115, 101, 108, 102]) = false := by rw [beq_eq_false_iff_ne]; exact g16
    have g17 : ¬ s.toList = [115, 105, 122, 101] := fun e => h17 (by rw [(toList_inj s ⟨#[115, 105, 122, 101]⟩).1 (e.trans (by rw [ByteArray.toList_eq]))]; rfl)
    have k17 : (s.toList == [115, 105, 122, 101]) = false := by rw [beq_eq_false_iff_ne]; exact g17
    have g18 : ¬ s.toList = [115, 117, 109] := fun e => h18 (by rw [(toList_inj s ⟨#[115, 117, 109]⟩).1 (e.trans (by rw [ByteArray.toList_eq]))]; rfl)
    have k18 : (s.toList == [115, 117, 109]) = false := by rw [beq_eq_false_iff_ne]; exact g18
    have g19 : ¬ s.toList = [116, 101, 120, 116] := fun e => h19 (by rw [(toList_inj s ⟨#[116, 101, 120, 116]⟩).1 (e.trans (by rw [ByteArray.toList_eq]))]; rfl)
    have k19 : (s.toList == [116, 101, 120, 116]) = false := by rw [beq_eq_false_iff_ne]; exact g19
    have g20 : ¬ s.toList = [116, 104, 101, 110] := fun e => h20 (by rw [(toList_inj s ⟨#[116, 104, 101, 110]⟩).1 (e.trans (by rw [ByteArray.toList_eq]))]; rfl)
    have k20 : (s.toList == [116, 104, 101, 110]) = false := by rw [beq_eq_false_iff_ne]; exact g20
    have g21 : ¬ s.toList = [116, 114, 117, 101] := fun e => h21 (by rw [(toList_inj s ⟨#[116, 114, 117, 101]⟩).1 (e.trans (by rw [ByteArray.toList_eq]))]; rfl)
    have k21 : (s.toList == [116, 114, 117, 101]) = false := by rw [beq_eq_false_iff_ne]; exact g21
    clear h0 h1 h2 h3 h4 h5 h6 h7 h8 h9 h10 h11 h12 h13 h14 h15 h16 h17 h18 h19 h20 h21
    go_enter Tryd.func76, Tryd.ntmps76
    go_wp2_with fail
    go_ret
    exact ⟨rfl, Quiet.refl _⟩
end Go.Proofs.YtpkggobhhieeoaaDoor
namespace Go.Proofs.YtpkggobhhieeoaaDoor
open Go.RowKit
theorem lex_number (s : ByteArray) (k0 : Nat) (hk0 : k0 ≤ s.size) (hs : s.size ≤ 4096) (R : Nat × Nat × Bool) (hR : numScan ((bs s).drop k0) 0 0 = R) (w : World) : Calls Tryd.prog 74 #[.string s, .int .i64 (k0 : Int)] w fun e w' => e = .returned (.tuple #[.int .i64 (R.1 : Int), .int .i64 ((k0 + R.2.1 : Nat) : Int), .bool R.2.2]) ∧ Quiet w w' := by
  obtain ⟨n, hn⟩ : ∃ n, s.size = n := ⟨_, rfl⟩
  have Hn := zH hn
  rw [hn] at hs hk0
  have hn' : (s.size : Int) = (n : Int) := by rw [hn]
  clear hn
  have HR := zH hR
  clear hR
  go_enter Tryd.func74, Tryd.ntmps74
  go_wp2_with fail
  go_loopw [7, 8] (fun nv i wr => ∃ (j a : Nat), k0 + j ≤ n ∧ i = .int .i64 ((k0 + j : Nat) : Int) ∧ nv = .int .i64 (a : Int) ∧ a ≤ 9223372036854775807 ∧ Hid (numScan ((bs s).drop (k0 + j)) j a = R) ∧ Quiet w wr) (fun _ i _ => n - (intOf i).toNat)
  case atStart => exact ⟨0, 0, by omega, by go_num, rfl, by omega, HR.out, Quiet.refl _⟩
  case round =>
    obtain ⟨j, a, hj, rfl, rfl, ha, hu, hq⟩ := hrel
    obtain ⟨k, hk⟩ : ∃ k, k0 + j = k := ⟨_, rfl⟩
    rw [hk] at hu hj ⊢
    have b1 : (0 : Int) ≤ (k : Int) := Int.natCast_nonneg _
    by_cases hlt : k < n
    · obtain ⟨c, hc, c256⟩ := get_bs (s := s) (k := k) (by rw [Hn.out]; exact hlt)
      have i1 := fun W => index_txt W 9 Tryd.underlying9 hc .i64 _ rfl
      have hdrop := drop_bs hc
      by_cases hd : 48 ≤ c ∧ c ≤ 57
      · have D := zH (fun W => lex_digit c true (by simp [figN]; omega) W)
        have hcase : (0 < j ∧ a = 0) ∨ (j = 0 ∧ (9223372036854775807 - (c - 48)) / 10 < a) ∨ (0 < j ∧ a ≠ 0 ∧ (9223372036854775807 - (c - 48)) / 10 < a) ∨ (¬ ((0 < j ∧ a = 0) ∨ (9223372036854775807 - (c - 48)) / 10 < a) ∧ j = 0) ∨ (¬ ((0 < j ∧ a = 0) ∨ (9223372036854775807 - (c - 48)) / 10 < a) ∧ 0 < j) := by omega
        have hbadv : ((0 < j ∧ a = 0) ∨ (9223372036854775807 - (c - 48)) / 10 < a) → R = (0, j, false) := fun h => by
          have := hu.out
          rw [hdrop, numScan, if_pos hd, if_pos h] at this
          exact this.symm
        have hgoodv : ¬ ((0 < j ∧ a = 0) ∨ (9223372036854775807 - (c - 48)) / 10 < a) → numScan ((bs s).drop (k + 1)) (j + 1) (10 * a + (c - 48)) = R := fun h => by
          have := hu.out
          rw [hdrop, numScan, if_pos hd, if_neg h] at this
          exact this
        have HBV := zH hbadv
        have HGV := zH hgoodv
        obtain ⟨hd1, hd2⟩ := hd
        clear hu hc hdrop hbadv hgoodv
        rcases hcase with ⟨x1, x2⟩ | ⟨x1, x2⟩ | ⟨x1, x3, x2⟩ | ⟨x2, x1⟩ | ⟨x2, x1⟩
        · have HV := zH (HBV.out (Or.inl ⟨x1, x2⟩))
          have f1 : decide ((k0 : Int) < (k : Int)) = true := by simp; omega
          subst x2
          clear HBV HGV
          go_wp2_with (go_at_call 73; refine (D.out _).mono ?_; rintro e w1 ⟨rfl, q1⟩)
          (try simp only [Exit.inBlock, Exit.then, Exit.noGoto_ret])
          go_ret3
          exact ⟨by rw [HV.out, ← hk]; rfl, hq.trans q1⟩
        · have HV := zH (HBV.out (Or.inr x2))
          have f1 : decide ((k0 : Int) < (k : Int)) = false := by simp; omega
          have f3 : decide ((9223372036854775807 - ((c : Int) - 48)) / 10 < (a : Int)) = true := by simp; omega
          clear x2
          clear HBV HGV
          go_wp2_with (go_at_call 73; refine (D.out _).mono ?_; rintro e w1 ⟨rfl, q1⟩)
          (try simp only [Exit.inBlock, Exit.then, Exit.noGoto_ret])
          go_ret3
          exact ⟨by rw [HV.out, ← hk]; rfl, hq.trans q1⟩
        · have HV := zH (HBV.out (Or.inr x2))
          have f1 : decide ((k0 : Int) < (k : Int)) = true := by simp; omega
          have f2 : ((a : Int) == 0) = false := by simp; omega
          have f3 : decide ((9223372036854775807 - ((c : Int) - 48)) / 10 < (a : Int)) = true := by simp; omega
          clear x2
          clear HBV HGV
          go_wp2_with (go_at_call 73; refine (D.out _).mono ?_; rintro e w1 ⟨rfl, q1⟩)
          (try simp only [Exit.inBlock, Exit.then, Exit.noGoto_ret])
          go_ret3
          exact ⟨by rw [HV.out, ← hk]; rfl, hq.trans q1⟩
        · have HV := zH (HGV.out x2)
          have f1 : decide ((k0 : Int) < (k : Int)) = false := by simp; omega
          have f3 : decide ((9223372036854775807 - ((c : Int) - 48)) / 10 < (a : Int)) = false := by simp; omega
          have f4 : 10 * a + (c - 48) ≤ 9223372036854775807 := by omega
          have f5 : 10 * (a : Int) + ((c : Int) - 48) ≤ 9223372036854775807 := by omega
          clear x2
          clear HBV HGV
          go_wp2_with (go_at_call 73; refine (D.out _).mono ?_; rintro e w1 ⟨rfl, q1⟩)
          go_roundw
          case rel => exact ⟨j + 1, 10 * a + (c - 48), by omega, by go_num, by go_num, f4, by rw [show k0 + (j + 1) = k + 1 by omega]; exact HV.out, hq.trans q1⟩
          case measure => simp [intOf]; omega
        · have HV := zH (HGV.out x2)
          have f1 : decide ((k0 : Int) < (k : Int)) = true := by simp; omega
          have f2 : ((a : Int) == 0) = false := by simp; omega
          have f3 : decide ((9223372036854775807 - ((c : Int) - 48)) / 10 < (a : Int)) = false := by simp; omega
          have f4 : 10 * a + (c - 48) ≤ 9223372036854775807 := by omega
          have f5 : 10 * (a : Int) + ((c : Int) - 48) ≤ 9223372036854775807 := by omega
          clear x2
          clear HBV HGV
          go_wp2_with (go_at_call 73; refine (D.out _).mono ?_; rintro e w1 ⟨rfl, q1⟩)
          go_roundw
          case rel => exact ⟨j + 1, 10 * a + (c - 48), by omega, by go_num, by go_num, f4, by rw [show k0 + (j + 1) = k + 1 by omega]; exact HV.out, hq.trans q1⟩
          case measure => simp [intOf]; omega
      · have hd0 : figN c = false := by simp [figN]; omega
        have D := zH (fun W => lex_digit c false hd0 W)
        have e0 : ((k : Int) == (n : Int)) = false := by simp; omega
        have hv : R = (a, j, !furtherN c) := by
          have := hu.out
          rw [hdrop, numScan, if_neg hd] at this
          exact this.symm
        have HV := zH hv
        obtain ⟨b, hb⟩ : ∃ b, furtherN c = b := ⟨_, rfl⟩
        have F := zH (fun W => lex_further c b hb W)
        rw [hb] at HV
        clear hu hc hdrop hd hd0 hv hb
        go_wp2_with (first | (go_at_call 73; refine (D.out _).mono ?_; rintro e w1 ⟨rfl, q1⟩) | (go_at_call 72; refine (F.out _).mono ?_; rintro e w2 ⟨rfl, q2⟩))
        go_ret3
        exact ⟨by rw [HV.out, ← hk]; rfl, (hq.trans q1).trans q2⟩
    · have hkn : k = n := by omega
      have e0 : ((k : Int) == (n : Int)) = true := by simp; omega
      have hdec : decide (k < n) = false := by simp; omega
      have hdec2 : decide ((k : Int) < (n : Int)) = false := by simp; omega
      have hv : R = (a, j, true) := by
        have := hu.out
        rw [List.drop_of_length_le (by rw [bs_len, Hn.out]; omega)] at this
        exact this.symm
      have HV := zH hv
      clear hu hv hkn
      go_wp2_with fail
      go_ret3
      exact ⟨by rw [HV.out, ← hk]; rfl, hq⟩
theorem prefix_take : ∀ (m r : List Nat), m.isPrefixOf r = decide (m.length ≤ r.length ∧ r.take m.length = m)
  | [], r => by simp
  | a :: m, [] => by simp
  | a :: m, b :: r => by
    rw [List.isPrefixOf, prefix_take m r, Bool.eq_iff_iff]
    simp
    constructor
    · rintro ⟨rfl, h1, h2⟩; exact ⟨h1, rfl, h2⟩
    · rintro ⟨h1, rfl, h2⟩; exact ⟨rfl, h1, h2⟩
theorem lex_prefix (s t : ByteArray) (hs : s.size ≤ maxLen) (ht : t.size ≤ maxLen) (b : Bool) (hb : (bs t).isPrefixOf (bs s) = b) (w : World) : Calls Tryd.prog 27 #[.string s, .string t] w fun e w' => e = .returned (.bool b) ∧ Quiet w w' := by
  have key : ∀ W, Calls Tryd.prog 40 #[.string s, .string t] W fun e w' => e = .returned (.bool b) ∧ Quiet W w' := by
    intro W
    unfold maxLen at hs ht
    rw [prefix_take, bs_len, bs_len] at hb
    obtain ⟨n, hn⟩ : ∃ n, s.size = n := ⟨_, rfl⟩
    obtain ⟨m, hm⟩ : ∃ m, t.size = m := ⟨_, rfl⟩
    have hn' : (s.size : Int) = (n : Int) := by rw [hn]
    have hm' : (t.size : Int) = (m : Int) := by rw [hm]
    rw [hn] at hs hb
    rw [hm] at ht hb
    have Hn := zH hn
    have Hm := zH hm
    clear hn hm
    by_cases h1 : m ≤ n
    · have he : bs (s.extract 0 m) = (bs s).take m := by rw [bs_extract]; simp
      by_cases h2 : (bs s).take m = bs t
      · have hbt : b = true := by rw [← hb]; exact decide_eq_true ⟨h1, h2⟩
        have hx : s.extract 0 m = t := bs_inj (he.trans h2)
        subst hbt
        clear hb h2 he
        go_enter Tryd.func40, Tryd.ntmps40
        go_wp2_with fail
        go_ret
        exact ⟨by first | rfl | (rw [show (0 : Int).toNat = 0 from rfl]; simp [hx]) | simp [hx], Quiet.refl _⟩
      · have hbt : b = false := by rw [← hb]; exact decide_eq_false (fun h => h2 h.2)
        have hx : ¬ (s.extract 0 m).toList = t.toList := fun e => h2 (by rw [← he, (toList_inj _ _).1 e])
        have hxb : ((s.extract 0 m).toList == t.toList) = false := by rw [beq_eq_false_iff_ne]; exact hx
        subst hbt
        clear hb h2 he
        go_enter Tryd.func40, Tryd.ntmps40
        go_wp2_with fail
        go_ret
        exact ⟨by first | rfl | simp [hx], Quiet.refl _⟩
    · have hbt : b = false := by rw [← hb]; exact decide_eq_false (fun h => h1 h.1)
      have hdec : decide ((m : Int) ≤ (n : Int)) = false := by simp; omega
      subst hbt
      clear hb
      go_enter Tryd.func40, Tryd.ntmps40
      go_wp2_with fail
      go_ret
      exact ⟨rfl, Quiet.refl _⟩
  have K := zH key
  clear key hb
  go_enter Tryd.func27, Tryd.ntmps27
  go_wp2_with (go_at_call 40; refine (K.out _).mono ?_; rintro e w1 ⟨rfl, q1⟩)
  go_ret
  exact ⟨rfl, q1⟩
end Go.Proofs.YtpkggobhhieeoaaDoor
namespace Go.Proofs.YtpkggobhhieeoaaDoor
open Go.RowKit
def marksV : Array Value := (marksL.map fun m => Value.string (txt m)).toArray
def Marks (w : World) : Prop := w.var? Tryd.prog "topiary/lex.marks" = some marksV
theorem lex_var_keep {P : Program} {w w' : World} {n : String} {cs : Array Value} (h : w.var? P n = some cs) (hb : Below w.heap.size w w') : w'.var? P n = some cs := by
  unfold World.var? at h ⊢
  cases hg : P.globalNamed n with
  | none => rw [hg] at h; simp at h
  | some g =>
    rw [hg] at h
    simp only [Option.bind_some] at h ⊢
    have hlt : g < w.heap.size := by
      rcases Nat.lt_or_ge g w.heap.size with hlt | hge
      · exact hlt
      · rw [Array.getElem?_eq_none hge] at h; cases h
    rw [hb.block g hlt]
    exact h
theorem Marks.below {w w' : World} (h : Marks w) (hb : Below w.heap.size w w') : Marks w' := lex_var_keep h hb
theorem Marks.drewN {w : World} (h : Marks w) (n : Nat) : Marks (w.drewN n) := h
theorem marks_block {w : World} (h : Marks w) : ∃ t fr, w.heap[0]? = some (.cells marksV t fr) := by
  unfold Marks World.var? at h
  rw [show Tryd.prog.globalNamed "topiary/lex.marks" = some 0 by kernel_rfl] at h
  simp only [Option.bind_some] at h
  cases hh : w.heap[0]? with
  | none => rw [hh] at h; cases h
  | some o =>
    rw [hh] at h
    cases o with
    | cells cs t fr => simp only [Option.some.injEq] at h; subst h; exact ⟨t, fr, rfl⟩
    | _ => cases h
theorem marks_index (k : Nat) (hk : k < 16) (W : World) : ∃ m, marksL[k]? = some m ∧ m ≠ [] ∧ m.length ≤ 2 ∧ (Instr.index 135 (.agg marksV) (.int .i64 (k : Int))).run Tryd.prog W = .ok (.string (txt m)) W := by
  rcases k with _ | _ | _ | _ | _ | _ | _ | _ | _ | _ | _ | _ | _ | _ | _ | _ | k
  all_goals first | omega | exact ⟨_, rfl, by simp, by simp, by kernel_rfl⟩
theorem find_drop {p : List Nat → Bool} {l : List (List Nat)} {k : Nat} {m : List Nat} (h : l[k]? = some m) : (l.drop k).find? p = if p m = true then some m else (l.drop (k + 1)).find? p := by
  have hk := (List.getElem?_eq_some_iff.1 h).1
  rw [List.drop_eq_getElem_cons hk, (List.getElem?_eq_some_iff.1 h).2, List.find?_cons]
  cases p m <;> rfl
theorem lex_mark (s : ByteArray) (c0 : Nat) (hc0 : (bs s)[0]? = some c0) (hs : s.size ≤ 4096) (R : List Nat × Nat) (hR : markN (bs s) = R) (w : World) (hm : Marks w) : Calls Tryd.prog 77 #[.string s] w fun e w' => e = .returned (.tuple #[.string (txt R.1), .int .i64 (R.2 : Int)]) ∧ Quiet w w' := by
  obtain ⟨tt, fr, hg1⟩ := marks_block hm
  have hF : (match (marksL.drop 0).find? (fun m => m.isPrefixOf (bs s)) with | some m => (m, m.length) | none => if (bs s).head? = some 33 ∨ (bs s).head? = some 61 then ([], 1) else ([], 0)) = R := hR
  have HF := zH hF
  have i0 := fun W => index_txt W 9 Tryd.underlying9 hc0 .i64 0 rfl
  have hhead : (bs s).head? = some c0 := by rw [List.head?_eq_getElem?]; exact hc0
  have Hhead := zH hhead
  have hpos : 0 < s.size := by rw [← bs_len]; exact (List.getElem?_eq_some_iff.1 hc0).1
  clear hm hF hR hc0 hhead
  go_enter Tryd.func77, Tryd.ntmps77
  go_wp2_with (refine wpList_load_row rfl 135 _ rfl 0 rfl tt _ fr _ hg1 Tryd.underlying135 rfl (by kernel_rfl) ?_)
  go_loopw [7] (fun i wr => ∃ k : Nat, k ≤ 16 ∧ i = .int .i64 (k : Int) ∧ Hid ((match (marksL.drop k).find? (fun m => m.isPrefixOf (bs s)) with | some m => (m, m.length) | none => if (bs s).head? = some 33 ∨ (bs s).head? = some 61 then ([], 1) else ([], 0)) = R) ∧ Quiet w wr) (fun i _ => 16 - (intOf i).toNat)
  case atStart => exact ⟨0, by omega, by go_num, HF.out, Quiet.refl _⟩
  case round =>
    obtain ⟨k, hk, rfl, hu, hq⟩ := hrel
    have b1 : (0 : Int) ≤ (k : Int) := Int.natCast_nonneg _
    by_cases hlt : k < 16
    · obtain ⟨m, hm, hne, hml, _⟩ := marks_index k hlt wr
      have hidx : ∀ W, (Instr.index 135 (.agg marksV) (.int .i64 (k : Int))).run Tryd.prog W = .ok (.string (txt m)) W := fun W => by
        obtain ⟨m', hm', _, _, h⟩ := marks_index k hlt W
        rw [hm] at hm'
        injection hm' with hm'
        subst hm'
        exact h
      have hby : Bytes m := by
        have : ∀ m ∈ marksL, ∀ n ∈ m, n < 256 := by decide
        exact this m (List.mem_iff_getElem?.2 ⟨k, hm⟩)
      have hsz : (txt m).size = m.length := txt_size m
      have hszi : ((txt m).size : Int) = (m.length : Int) := by rw [hsz]
      obtain ⟨b, hb⟩ : ∃ b, m.isPrefixOf (bs s) = b := ⟨_, rfl⟩
      have PX := zH (fun W => lex_prefix s (txt m) (by unfold maxLen; omega) (by rw [hsz]; unfold maxLen; omega) b (by rw [bs_txt hby]; exact hb) W)
      have hf := find_drop (p := fun m => m.isPrefixOf (bs s)) hm
      rw [hb] at hf
      cases b with
      | true =>
        have hv := hu.out
        rw [hf, if_pos rfl] at hv
        have HV := zH hv
        clear hu hv hm hne hby hb hf
        go_wp2_with (go_at_call 27; refine (PX.out _).mono ?_; rintro e w1 ⟨rfl, q1⟩)
        go_ret2
        exact ⟨by rw [← HV.out]; rfl, hq.trans q1⟩
      | false =>
        have hv := hu.out
        rw [hf, if_neg (by simp)] at hv
        have HV := zH hv
        clear hu hv hm hne hby hb hf
        go_wp2_with (go_at_call 27; refine (PX.out _).mono ?_; rintro e w1 ⟨rfl, q1⟩)
        go_roundw
        case rel => exact ⟨k + 1, by omega, by go_num, HV.out, hq.trans q1⟩
        case measure => simp [intOf]; omega
    · have hk16 : k = 16 := by omega
      subst hk16
      have hv := hu.out
      rw [show (marksL.drop 16) = [] from rfl, List.find?_nil, Hhead.out] at hv
      have hdec : decide (((16 : Nat) : Int) < 16) = false := by decide
      clear hu
      by_cases h33 : c0 = 33
      · subst h33
        have HV := zH hv
        clear hv
        go_wp2_with fail
        go_ret2
        exact ⟨by rw [← HV.out]; rfl, hq⟩
      · have e1 : ((c0 : Int) == 33) = false := by simp; omega
        by_cases h61 : c0 = 61
        · subst h61
          have HV := zH hv
          clear hv
          go_wp2_with fail
          go_ret2
          exact ⟨by rw [← HV.out]; rfl, hq⟩
        · have e2 : ((c0 : Int) == 61) = false := by simp; omega
          rw [if_neg (by simp; omega)] at hv
          have HV := zH hv
          clear hv
          go_wp2_with fail
          go_ret2
          exact ⟨by rw [← HV.out]; rfl, hq⟩
theorem Quiet.cell {w w' : World} (h : Quiet w w') {a : Addr} {v : Value} (hc : w.cell? a = some v) : w'.cell? a = some v := by
  obtain ⟨n, rfl⟩ := h
  exact hc
theorem takeWhile_run {p : Nat → Bool} : ∀ (r : List Nat) (j : Nat), j ≤ r.length → (∀ i, i < j → ∃ c, r[i]? = some c ∧ p c = true) → (j = r.length ∨ ∃ c, r[j]? = some c ∧ p c = false) → r.takeWhile p = r.take j
  | [], j, h, _, _ => by simp
  | a :: r, 0, _, _, h => by
    rcases h with h | ⟨c, h, hp⟩
    · simp at h
    · simp at h; subst h; rw [List.takeWhile_cons, if_neg (by rw [hp]; simp), List.take_zero]
  | a :: r, j + 1, h, h1, h2 => by
    obtain ⟨c, hc, hp⟩ := h1 0 (by omega)
    simp at hc
    subst hc
    rw [List.takeWhile_cons, if_pos hp, List.take_succ_cons, takeWhile_run r j (by simpa using h) (fun i hi => by simpa using h1 (i + 1) (by omega)) (by simpa using h2)]
theorem lex_run (s : ByteArray) (k0 : Nat) (hk0 : k0 ≤ s.size) (hs : s.size ≤ 4096) (w : World) (g0 g1 : Nat) (h1 : Blk w g0 9 #[.string s]) (h2 : Blk w g1 3 #[.int .i64 (k0 : Int)]) : Calls Tryd.prog 71 #[.pointer (some ⟨g1, 0, none⟩), .pointer (some ⟨g0, 0, none⟩)] w fun e w' => e = .returned (.string (txt (((bs s).drop k0).takeWhile furtherN))) ∧ Quiet w w' := by
  obtain ⟨n, hn⟩ : ∃ n, s.size = n := ⟨_, rfl⟩
  have Hn := zH hn
  rw [hn] at hs hk0
  have hn' : (s.size : Int) = (n : Int) := by rw [hn]
  clear hn
  have C1 := h1.cell (i := 0) rfl
  have C2 := h2.cell (i := 0) rfl
  clear h1 h2
  go_enter Tryd.func71, Tryd.ntmps71
  go_wp2_with fail
  go_loopw [3] (fun i wr => ∃ j : Nat, k0 + j ≤ n ∧ i = .int .i64 ((k0 + j : Nat) : Int) ∧ Hid (∀ i, i < j → ∃ c, ((bs s).drop k0)[i]? = some c ∧ furtherN c = true) ∧ Quiet w wr) (fun i _ => n - (intOf i).toNat)
  case atStart => exact ⟨0, by omega, by go_num, fun i hi => by omega, Quiet.refl _⟩
  case round =>
    obtain ⟨j, hj, rfl, hu, hq⟩ := hrel
    obtain ⟨k, hk⟩ : ∃ k, k0 + j = k := ⟨_, rfl⟩
    rw [hk] at hj ⊢
    have b1 : (0 : Int) ≤ (k : Int) := Int.natCast_nonneg _
    have b2 : (0 : Int) ≤ (k0 : Int) := Int.natCast_nonneg _
    have C1' := hq.cell C1
    have C2' := hq.cell C2
    by_cases hlt : k < n
    · obtain ⟨c, hc, c256⟩ := get_bs (s := s) (k := k) (by rw [Hn.out]; exact hlt)
      have i1 := fun W => index_txt W 9 Tryd.underlying9 hc .i64 _ rfl
      obtain ⟨b, hb⟩ : ∃ b, furtherN c = b := ⟨_, rfl⟩
      have F := zH (fun W => lex_further c b hb W)
      have hcj : ((bs s).drop k0)[j]? = some c := by rw [List.getElem?_drop, hk]; exact hc
      cases b with
      | true =>
        have hnew : ∀ i, i < j + 1 → ∃ c, ((bs s).drop k0)[i]? = some c ∧ furtherN c = true := fun i hi => by
          by_cases e : i = j
          · subst e; exact ⟨c, hcj, hb⟩
          · exact hu.out i (by omega)
        have HN := zH hnew
        clear hnew hu hc hcj hb
        go_wp2_with (go_at_call 72; refine (F.out _).mono ?_; rintro e w1 ⟨rfl, q1⟩)
        go_roundw
        case rel => exact ⟨j + 1, by omega, by go_num, HN.out, hq.trans q1⟩
        case measure => simp [intOf]; omega
      | false =>
        have hv := takeWhile_run (p := furtherN) ((bs s).drop k0) j (by rw [List.length_drop, bs_len, Hn.out]; omega) hu.out (Or.inr ⟨c, hcj, hb⟩)
        have hx : s.extract k0 k = txt (((bs s).drop k0).takeWhile furtherN) := by
          apply bs_inj
          rw [bs_txt (fun x hx => bs_bytes s x (List.mem_of_mem_drop ((List.takeWhile_sublist _).subset hx))), hv, bs_extract, List.drop_take, show k - k0 = j by omega]
        have HX := zH hx
        clear hu hc hcj hb hv hx
        go_wp2_with (go_at_call 72; refine (F.out _).mono ?_; rintro e w1 ⟨rfl, q1⟩; have C1'' := q1.cell C1'; have C2'' := q1.cell C2')
        go_ret
        exact ⟨by rw [← HX.out]; rfl, hq.trans q1⟩
    · have hdec : decide (k < n) = false := by simp; omega
      have hdec2 : decide ((k : Int) < (n : Int)) = false := by simp; omega
      have hv := takeWhile_run (p := furtherN) ((bs s).drop k0) j (by rw [List.length_drop, bs_len, Hn.out]; omega) hu.out (Or.inl (by rw [List.length_drop, bs_len, Hn.out]; omega))
      have hx : s.extract k0 k = txt (((bs s).drop k0).takeWhile furtherN) := by
        apply bs_inj
        rw [bs_txt (fun x hx => bs_bytes s x (List.mem_of_mem_drop ((List.takeWhile_sublist _).subset hx))), hv, bs_extract, List.drop_take, show k - k0 = j by omega]
      have HX := zH hx
      clear hu hv hx
      go_wp2_with fail
      go_ret
      exact ⟨by rw [← HX.out]; rfl, hq⟩
end Go.Proofs.YtpkggobhhieeoaaDoor
