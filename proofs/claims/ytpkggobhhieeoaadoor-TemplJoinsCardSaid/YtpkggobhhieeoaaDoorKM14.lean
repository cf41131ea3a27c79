/- - - - - -/
import Derived.Test.YtpkggobhhieeoaaDoorKM5
import Derived.Test.YtpkggobhhieeoaaDoorKM13
import Derived.Test.YtpkggobhhieeoaaDoorKM11
set_option maxRecDepth 100000
set_option maxHeartbeats 32000000
set_option linter.unusedSimpArgs false
set_option linter.unusedVariables false
namespace Go.Proofs.YtpkggobhhieeoaaDoor
open Go.RowKit
section
variable {t x y : List Nat} {i b : Nat}
theorem at_drop (h : t.drop i = x) (k : Nat) : t[i + k]? = x[k]? := by rw [← h, List.getElem?_drop]
theorem drop_more (h : t.drop i = x ++ y) : t.drop (i + x.length) = y := by rw [← List.drop_drop, h, List.drop_left]
theorem cut_drop (h : t.drop i = x ++ y) {n : Nat} (hn : n ≤ x.length) : cutN t i (i + n) = x.take n := by
  unfold cutN
  rw [List.drop_take, h, show i + n - i = n by omega, List.take_append_of_le_length hn]
theorem drop_len (h : t.drop i = x ++ y) (hx : x ≠ []) : i + x.length ≤ t.length := by
  have h1 := congrArg List.length h
  rw [List.length_drop, List.length_append] at h1
  have h2 : 0 < x.length := List.length_pos_iff.2 hx
  omega
end
theorem right_take {nm : List Nat} {k : Nat} (h : rightN nm = true) (hk : 1 ≤ k) : rightN (nm.take k) = true := by
  obtain ⟨c, t, rfl, h1, h2, h3⟩ := right_parts h
  obtain ⟨k, rfl⟩ : ∃ j, k = j + 1 := ⟨k - 1, by omega⟩
  rw [List.take_succ_cons]
  show (decide ((c :: t.take k).length ≤ 32) && letterN c && (c :: t.take k).all furtherN) = true
  rw [h1, Bool.and_true, Bool.and_eq_true]
  refine ⟨decide_eq_true ?_, List.all_eq_true.2 fun z hz => ?_⟩
  · rw [List.length_cons, List.length_take]; rw [List.length_cons] at h3; omega
  · refine List.all_eq_true.1 h2 z ?_
    rcases List.mem_cons.1 hz with rfl | hz
    · simp
    · exact List.mem_cons_of_mem _ (List.mem_of_mem_take hz)
theorem right_more {nm : List Nat} {c : Nat} (h : nm ≠ []) (hc : furtherN c = false) : rightN (nm ++ [c]) = false := by
  cases nm with
  | nil => exact absurd rfl h
  | cons d t =>
    show (decide ((d :: (t ++ [c])).length ≤ 32) && letterN d && (d :: (t ++ [c])).all furtherN) = false
    have : (d :: (t ++ [c])).all furtherN = false := by
      rw [List.all_eq_false]
      exact ⟨c, by simp, by simp [hc]⟩
    rw [this, Bool.and_false]
theorem right_ne {nm : List Nat} (h : rightN nm = true) : nm ≠ [] := fun e => by rw [e] at h; cases h
theorem name_at {t nm y : List Nat} {b : Nat} (h : t.drop b = nm ++ y) (hn : rightN nm = true) (hy : ∀ c, y.head? = some c → furtherN c = false) : nameS t b = .inl (nm, b + nm.length) := by
  have hne := right_ne hn
  have hpos : 0 < nm.length := List.length_pos_iff.2 hne
  have hlen := drop_len h hne
  have key : ∀ f n, b ≤ n → n ≤ b + nm.length → b + nm.length - n ≤ f → nameTo t b f n = b + nm.length := by
    intro f
    induction f with
    | zero => intro n h1 h2 h3; show n = _; omega
    | succ f ih =>
      intro n h1 h2 h3
      rw [nameTo]
      by_cases hlt : n < b + nm.length
      · have hc : cutN t b (n + 1) = nm.take (n + 1 - b) := by
          have := cut_drop h (n := n + 1 - b) (by omega)
          rwa [show b + (n + 1 - b) = n + 1 by omega] at this
        rw [if_pos ⟨by omega, by rw [hc]; exact right_take hn (by omega)⟩]
        exact ih (n + 1) (by omega) (by omega) (by omega)
      · have hnb : n = b + nm.length := by omega
        rw [if_neg]
        · exact hnb
        · rintro ⟨h4, h5⟩
          have hd := drop_more h
          rw [← hnb] at hd
          cases hyc : y with
          | nil => rw [hyc] at hd; have := congrArg List.length hd; rw [List.length_drop, List.length_nil] at this; omega
          | cons c z =>
            have hc : cutN t b (n + 1) = nm ++ [c] := by
              have h6 : t.drop b = (nm ++ [c]) ++ z := by rw [h, hyc]; simp
              have := cut_drop h6 (n := nm.length + 1) (by simp)
              rw [show b + (nm.length + 1) = n + 1 by omega, List.take_of_length_le (by simp)] at this
              exact this
            rw [hc, right_more hne (hy c (by rw [hyc]; rfl))] at h5
            cases h5
  have hE : nameE t b = b + nm.length := key _ _ zL (by omega) (by omega)
  unfold nameS
  rw [hE, if_neg (by omega)]
  have := cut_drop h zL
  rw [List.take_length] at this
  rw [this]
theorem mark_at {t m y : List Nat} {a : Nat} (ht : Bytes t) (hm : Bytes m) (h : t.drop a = quoteN m ++ y) (hne : m ≠ []) : markS t a = .inl (m, a + (quoteN m).length) := by
  have h1 : t.drop a = 34 :: (m.flatMap formN ++ 34 :: y) := by rw [h]; unfold quoteN; simp
  have hy : Bytes y := fun z hz => ht z (List.mem_of_mem_drop (i := a) (by rw [h]; exact List.mem_append_right _ hz))
  have h34 : t[a]? = some 34 := by have := at_drop h1 0; simpa using this
  have hq := quote_tok ht h1.symm
  rw [qR_of_form m y hm hy] at hq
  simp only at hq
  have hl : (quoteN m).length = (m.flatMap formN).length + 2 := by unfold quoteN; simp
  unfold markS
  rw [if_neg (by rw [h34]; simp), hq]
  simp only
  rw [if_neg (by simp), if_neg hne, hl]
  congr 2
  omega
theorem end_chars {t z : List Nat} : ∀ (x : List Nat) (i f : Nat), (∀ c ∈ x, c ≠ 34 ∧ c ≠ 125) → t.drop i = x ++ z → x.length ≤ f → endTo t f i = endTo t (f - x.length) (i + x.length)
  | [], i, f, _, _, _ => rfl
  | c :: x, i, f, hx, h, hf => by
    have hc := hx c (by simp)
    have h0 : t[i]? = some c := by have := at_drop h 0; simpa using this
    have hd : t.drop (i + 1) = x ++ z := by rw [← List.drop_drop, h]; rfl
    rw [List.length_cons] at hf
    rw [← end_on rfl (by omega) h0 hc.2 hc.1, end_chars x (i + 1) (f - 1) (fun d hd => hx d (List.mem_cons_of_mem _ hd)) hd (by omega), List.length_cons]
    congr 1
    · omega
    · omega
theorem num_chars : ∀ (r : List Nat) (j n : Nat), ∀ c ∈ r.take ((numScan r j n).2.1 - j), 48 ≤ c ∧ c ≤ 57
  | [], j, n, c, h => by simp at h
  | d :: r, j, n, c, h => by
    rw [numScan] at h
    split at h
    · rename_i hd
      split at h
      · simp at h
      · have hm := (num_mono r (j + 1) (10 * n + (d - 48))).1
        rw [show (numScan r (j + 1) (10 * n + (d - 48))).2.1 - j = ((numScan r (j + 1) (10 * n + (d - 48))).2.1 - (j + 1)) + 1 by omega, List.take_succ_cons] at h
        rcases List.mem_cons.1 h with rfl | h
        · exact hd
        · exact num_chars r _ _ c h
    · simp at h
theorem tw_mem {p : Nat → Bool} : ∀ (l : List Nat), ∀ c ∈ l.takeWhile p, p c = true
  | [], c, h => by simp at h
  | d :: l, c, h => by
    rw [List.takeWhile_cons] at h
    split at h
    · rename_i hd
      rcases List.mem_cons.1 h with rfl | h
      · exact hd
      · exact tw_mem l c h
    · simp at h
theorem tw_take {p : Nat → Bool} : ∀ (l : List Nat), l.take (l.takeWhile p).length = l.takeWhile p
  | [] => rfl
  | d :: l => by
    rw [List.takeWhile_cons]
    split
    · rw [List.length_cons, List.take_succ_cons, tw_take l]
    · rfl
theorem tok_plain {r : List Nat} {t : Nat × List Nat × Int} {n : Nat} (h34 : r.head? ≠ some 34) (h : tokR r = (some t, n)) : ∀ c ∈ r.take n, c ≠ 34 ∧ c ≠ 125 := by
  cases r with
  | nil => intro c hc; simp at hc
  | cons d r =>
    rw [tokR_step (by simpa using h34)] at h
    by_cases hd : 48 ≤ d ∧ d ≤ 57
    · rw [stepP_digit hd] at h
      split at h
      · injection h with _ h2
        subst h2
        intro c hc
        have := num_chars (d :: r) 0 0 c (by rw [Nat.sub_zero]; exact hc)
        omega
      · cases h
    · by_cases hl : letterN d = true
      · rw [stepP_letter hl] at h
        split at h
        · injection h with _ h2
          subst h2
          intro c hc
          rw [tw_take] at hc
          have := tw_mem _ c hc
          constructor <;> intro e <;> subst e <;> revert this <;> decide
        · cases h
      · rw [stepP_mark hd hl] at h
        split at h
        · cases h
        · rename_i hm
          injection h with _ h2
          subst h2
          obtain ⟨h3, h4, z, h5⟩ := mark_found hm
          intro c hc
          rw [h4] at hc
          have h7 : (d :: r).take (markN (d :: r)).1.length = (markN (d :: r)).1 := by
            have h8 := List.take_left (l₁ := (markN (d :: r)).1) (l₂ := z)
            rw [← h5] at h8
            exact h8
          rw [h7] at hc
          have h6 : ∀ m ∈ marksL, ∀ c ∈ m, c ≠ 34 ∧ c ≠ 125 := by decide
          exact h6 _ h3 c hc
theorem end_run {r : List Nat} {i0 : Nat} {T : List Tok} {r' : List Nat} {i' : Nat} (h : Run r i0 T r' i') : r' = [] → Bytes r → ∀ (t y : List Nat) (i f : Nat), Bytes t → t.drop i = r ++ 125 :: y → r.length ≤ f → endTo t f i = i + r.length := by
  induction h with
  | done r i0 =>
    intro h0 _ t y i f _ ht _
    subst h0
    have h1 : t[i]? = some 125 := by have := at_drop ht 0; simpa using this
    exact end_end rfl (fun _ => h1)
  | @blank c r i0 T r' i' hb h ih =>
    intro h0 hr t y i f htb ht hf
    have h1 : t[i]? = some c := by have := at_drop ht 0; simpa using this
    rw [List.length_cons] at hf
    rw [← end_on rfl (by omega) h1 (by omega) (by omega), ih h0 (fun z hz => hr z (List.mem_cons_of_mem _ hz)) t y (i + 1) (f - 1) htb (by rw [← List.drop_drop, ht]; rfl) (by omega), List.length_cons]
    omega
  | @tok r i0 k s v n T r' i' hnb htok h ih =>
    intro h0 hr t y i f htb ht hf
    obtain ⟨hn1, hn2, _⟩ := tok_some hr htok
    have hrd : r = r.take n ++ r.drop n := (List.take_append_drop n r).symm
    have htd : t.drop i = r.take n ++ (r.drop n ++ 125 :: y) := by rw [ht, ← List.append_assoc, List.take_append_drop]
    have htl : (r.take n).length = n := by rw [List.length_take]; omega
    have hd2 := drop_more htd
    rw [htl] at hd2
    have hstep : ∃ f', r.length - n ≤ f' ∧ endTo t f i = endTo t f' (i + n) := by
      by_cases h34 : r.head? = some 34
      · cases hrc : r with
        | nil => rw [hrc] at h34; cases h34
        | cons c r1 =>
          rw [hrc] at h34
          obtain rfl : c = 34 := by simpa using h34
          rw [hrc, tokR_quote] at htok
          have hr1 : Bytes r1 := fun z hz => hr z (by rw [hrc]; exact List.mem_cons_of_mem _ hz)
          obtain ⟨n1, hq⟩ : ∃ n1, ∃ s1, qR r1 = (some s1, n1) ∧ n = n1 + 1 := by
            cases hqr : qR r1 with
            | mk a b =>
              rw [hqr] at htok
              cases a with
              | none => cases htok
              | some s1 =>
                injection htok with _ h2
                exact ⟨b, s1, rfl, h2.symm⟩
          obtain ⟨s1, hq, rfl⟩ := hq
          have hloc := qR_local hr1 hq (r1.drop n1 ++ 125 :: y) (fun z hz => htb z (List.mem_of_mem_drop (i := i) (by
            rw [ht, hrc]
            rcases List.mem_append.1 hz with hz | hz
            · exact List.mem_append_left _ (List.mem_cons_of_mem _ (List.mem_of_mem_drop hz))
            · exact List.mem_append_right _ hz)))
          rw [← List.append_assoc, List.take_append_drop] at hloc
          have h1 : t.drop i = 34 :: (r1 ++ 125 :: y) := by rw [ht, hrc]; rfl
          have hqt := quote_tok htb h1.symm
          rw [hloc] at hqt
          simp only at hqt
          have h2 : t[i]? = some 34 := by have := at_drop h1 0; simpa using this
          refine ⟨f - 1, by rw [hrc] at hf; rw [List.length_cons] at hf ⊢; omega, ?_⟩
          have h3 : quoteTo t i = i + (n1 + 1) := by unfold quoteTo; rw [hqt]; simp; omega
          rw [← h3]
          exact (end_quote rfl (by rw [hrc] at hf; rw [List.length_cons] at hf; omega) h2).symm
      · refine ⟨f - n, by omega, ?_⟩
        have := end_chars (r.take n) i f (tok_plain h34 htok) htd (by rw [htl]; omega)
        rwa [htl] at this
    obtain ⟨f', hf', hst⟩ := hstep
    rw [hst, ih h0 (fun z hz => hr z (List.mem_of_mem_drop hz)) t y (i + n) f' htb hd2 (by rw [List.length_drop]; omega), List.length_drop]
    omega
theorem expr_at {t x y : List Nat} {b : Nat} (ht : Bytes t) (hx : Bytes x) (hl : x.length ≤ 4096) (h : t.drop b = x ++ 125 :: y) (hp : (parseN x).2.2 = 0) : exprS t b = .inl (x, b + x.length) := by
  have hE : endE t b = b + x.length := by
    rcases scan_cases hx hl with ⟨T, i', hT, e⟩ | ⟨T, r', i', n, hT, _, e⟩
    · refine end_run hT rfl hx t y b t.length ht h ?_
      have := congrArg List.length h
      rw [List.length_drop, List.length_append, List.length_cons] at this
      omega
    · exfalso
      rw [parseN_scan (by rw [e]; simp), e] at hp
      cases hp
  have hc := cut_drop h zL
  rw [List.take_length] at hc
  unfold exprS
  rw [hE, hc, if_neg (by simpa using hp)]
theorem braces_cons (c : Nat) (w : List Nat) : bracesN (c :: w) = (if c = 123 ∨ c = 125 then [c, c] else [c]) ++ bracesN w := by
  unfold bracesN
  have h1 : twiceN 123 (c :: w) = (if c = 123 then [c, c] else [c]) ++ twiceN 123 w := rfl
  rw [h1, twice_app]
  congr 1
  by_cases h3 : c = 123
  · subst h3; rfl
  · by_cases h5 : c = 125
    · subst h5; rfl
    · rw [if_neg h3, if_neg (by omega)]
      show (if c = 125 then [c, c] else [c]) ++ [] = [c]
      rw [if_neg h5]
      rfl
def WordEnd (y : List Nat) : Prop := y = [] ∨ ∃ c z, y = 123 :: c :: z ∧ c ≠ 123
theorem word_at {t y : List Nat} (hy : WordEnd y) : ∀ (w : List Nat) (i f : Nat) (o : List Nat), t.drop i = bracesN w ++ y → w.length ≤ f → wordS t f i o = .inl (o ++ w, i + (bracesN w).length)
  | [], i, f, o, h, hf => by
    have h1 : wordS t f i o = .inl (o, i) := word_end rfl (fun c hc => by
      have h2 : t.drop i = y := h
      rcases hy with rfl | ⟨d, z, rfl, hd⟩
      · have := at_drop h2 0
        rw [Nat.add_zero, hc] at this
        cases this
      · have h3 := at_drop h2 0
        have h4 := at_drop h2 1
        rw [Nat.add_zero, hc] at h3
        simp at h3 h4
        exact ⟨h3, by rw [h4]; simpa using hd⟩)
    rw [h1, List.append_nil]
    rfl
  | c :: w, i, f, o, h, hf => by
    rw [braces_cons] at h ⊢
    rw [List.length_cons] at hf
    by_cases hc : c = 123 ∨ c = 125
    · rw [if_pos hc] at h ⊢
      have h0 : t[i]? = some c := by have := at_drop h 0; simpa using this
      have h1 : t[i + 1]? = some c := by have := at_drop h 1; simpa using this
      have hd : t.drop (i + 2) = bracesN w ++ y := by rw [← List.drop_drop, h]; simp
      rw [← word_two rfl (by omega) h0 hc h1, word_at hy w (i + 2) (f - 1) (o ++ [c]) hd (by omega)]
      simp only [List.append_assoc, List.length_append, List.length_cons, List.length_nil]
      congr 2
      omega
    · rw [if_neg hc] at h ⊢
      have h0 : t[i]? = some c := by have := at_drop h 0; simpa using this
      have hd : t.drop (i + 1) = bracesN w ++ y := by rw [← List.drop_drop, h]; simp
      rw [← word_one rfl (by omega) h0 hc, word_at hy w (i + 1) (f - 1) (o ++ [c]) hd (by omega)]
      simp only [List.append_assoc, List.length_append, List.length_cons, List.length_nil]
      congr 2
      omega
end Go.Proofs.YtpkggobhhieeoaaDoor
namespace Go.Proofs.YtpkggobhhieeoaaDoor
open Go.RowKit
theorem further_ends : furtherN 125 = false ∧ furtherN 32 = false ∧ furtherN 46 = false := by decide
theorem plain_split {p : Pc} (h : plainP p = true) : p.text.length + p.mark.length ≤ 4096 ∧
    ((p.kind = 1 ∧ p.text ≠ [] ∧ p.mark = []) ∨ (p.kind = 2 ∧ rightN p.text = true ∧ p.mark = []) ∨ (p.kind = 3 ∧ rightN p.text = true) ∨ (p.kind = 4 ∧ rightN p.text = true ∧ (p.mark = [] ∨ rightN p.mark = true)) ∨ (p.kind = 5 ∧ (parseN p.text).2.2 = 0 ∧ p.mark = [])) := by
  refine ⟨plain_len h, ?_⟩
  unfold plainP at h
  rw [Bool.and_eq_true] at h
  obtain ⟨_, h⟩ := h
  unfold kindP at h
  split at h
  · rename_i hk
    rw [Bool.and_eq_true] at h
    exact .inl ⟨hk, of_decide_eq_true h.1, of_decide_eq_true h.2⟩
  · split at h
    · rename_i hk
      rw [Bool.and_eq_true] at h
      exact .inr (.inl ⟨hk, h.1, of_decide_eq_true h.2⟩)
    · split at h
      · rename_i hk
        exact .inr (.inr (.inl ⟨hk, h⟩))
      · split at h
        · rename_i hk
          rw [Bool.and_eq_true, Bool.or_eq_true] at h
          exact .inr (.inr (.inr (.inl ⟨hk, h.1, h.2.imp of_decide_eq_true id⟩)))
        · split at h
          · rename_i hk
            rw [Bool.and_eq_true] at h
            exact .inr (.inr (.inr (.inr ⟨hk, of_decide_eq_true h.1, of_decide_eq_true h.2⟩)))
          · cases h
theorem shown_2 {x m : List Nat} : shownP ⟨2, x, m⟩ = 123 :: 46 :: (x ++ [125]) := rfl
theorem shown_3 {x : List Nat} : shownP ⟨3, x, []⟩ = 123 :: 35 :: (x ++ [125]) := rfl
theorem shown_3m {x m : List Nat} (h : m ≠ []) : shownP ⟨3, x, m⟩ = 123 :: 35 :: (x ++ 32 :: (quoteN m ++ [125])) := by
  show (if m = [] then _ else [123, 35] ++ x ++ [32] ++ quoteN m ++ [125]) = _
  rw [if_neg h]
  simp
theorem shown_4 {x : List Nat} : shownP ⟨4, x, []⟩ = 123 :: 45 :: 62 :: (x ++ [125]) := rfl
theorem shown_4m {x m : List Nat} (h : m ≠ []) : shownP ⟨4, x, m⟩ = 123 :: 45 :: 62 :: (x ++ 46 :: (m ++ [125])) := by
  show (if m = [] then _ else [123, 45, 62] ++ x ++ [46] ++ m ++ [125]) = _
  rw [if_neg h]
  simp
theorem shown_5 {x m : List Nat} : shownP ⟨5, x, m⟩ = 123 :: 61 :: (x ++ [125]) := rfl
theorem shown_1 {x m : List Nat} : shownP ⟨1, x, m⟩ = bracesN x := rfl
theorem ins_at {t y : List Nat} {i : Nat} {p : Pc} (ht : Bytes t) (hp : plainP p = true) (hk : p.kind ≠ 1) (hx : Bytes p.text) (hm : Bytes p.mark) (h : t.drop i = shownP p ++ y) :
    insB t i = true ∧ ∃ j, insertS t (i + 1) = .inl (p, j) ∧ t[j]? = some 125 ∧ j + 1 = i + (shownP p).length := by
  obtain ⟨hl, hc⟩ := plain_split hp
  obtain ⟨k, x, m⟩ := p
  simp only at hl hc hk hx hm
  have hb : ∀ c z, shownP ⟨k, x, m⟩ = 123 :: c :: z → c ≠ 123 → t[i + 1]? = some c ∧ insB t i = true ∧ t.drop (i + 2) = z ++ y := fun c z hs hc => by
    rw [hs] at h
    have h0 := at_drop h 0
    have h1 := at_drop h 1
    simp at h0 h1
    refine ⟨h1, by unfold insB; rw [h0, h1]; simpa using hc, ?_⟩
    rw [← List.drop_drop, h]
    rfl
  rcases hc with ⟨rfl, _⟩ | ⟨rfl, hr, rfl⟩ | ⟨rfl, hr⟩ | ⟨rfl, hr, hmk⟩ | ⟨rfl, hpe, rfl⟩
  · exact absurd rfl hk
  · obtain ⟨h1, h2, h3⟩ := hb _ _ shown_2 (by decide)
    rw [List.append_assoc] at h3
    have hn := name_at h3 hr (fun c hc => by injection hc with hc; subst hc; exact further_ends.1)
    have hd := drop_more h3
    refine ⟨h2, i + 2 + x.length, ?_, ?_, ?_⟩
    · unfold insertS
      rw [h1, if_pos rfl, hn]
      rfl
    · have := at_drop hd 0
      simpa using this
    · rw [shown_2]; simp; omega
  · by_cases hm0 : m = []
    · subst hm0
      obtain ⟨h1, h2, h3⟩ := hb _ _ shown_3 (by decide)
      rw [List.append_assoc] at h3
      have hn := name_at h3 hr (fun c hc => by injection hc with hc; subst hc; exact further_ends.1)
      have hd := drop_more h3
      have hj : t[i + 2 + x.length]? = some 125 := by have := at_drop hd 0; simpa using this
      refine ⟨h2, i + 2 + x.length, ?_, hj, ?_⟩
      · unfold insertS
        rw [h1, if_neg (by decide), if_pos rfl, hn]
        simp only [thenS]
        rw [if_neg (by rw [hj]; decide)]
      · rw [shown_3]; simp; omega
    · obtain ⟨h1, h2, h3⟩ := hb _ _ (shown_3m hm0) (by decide)
      have h3' : t.drop (i + 2) = x ++ 32 :: (quoteN m ++ 125 :: y) := by rw [h3]; simp
      have hn := name_at h3' hr (fun c hc => by injection hc with hc; subst hc; exact further_ends.2.1)
      have hd := drop_more h3'
      have hj : t[i + 2 + x.length]? = some 32 := by have := at_drop hd 0; simpa using this
      have hd2 : t.drop (i + 2 + x.length + 1) = quoteN m ++ 125 :: y := by rw [← List.drop_drop, hd]; rfl
      have hq := mark_at ht hm hd2 hm0
      have hd3 := drop_more hd2
      have hj2 : t[i + 2 + x.length + 1 + (quoteN m).length]? = some 125 := by have := at_drop hd3 0; simpa using this
      refine ⟨h2, _, ?_, hj2, ?_⟩
      · unfold insertS
        rw [h1, if_neg (by decide), if_pos rfl, hn]
        simp only [thenS]
        rw [if_pos hj, hq]
      · rw [shown_3m hm0]; simp; omega
  · have hb2 : ∀ z, shownP ⟨4, x, m⟩ = 123 :: 45 :: 62 :: z → t[i + 1]? = some 45 ∧ t[i + 1 + 1]? = some 62 ∧ insB t i = true ∧ t.drop (i + 1 + 2) = z ++ y := fun z hs => by
      obtain ⟨h1, h2, h3⟩ := hb _ _ hs (by decide)
      have h4 := at_drop h3 0
      simp at h4
      refine ⟨h1, h4, h2, ?_⟩
      rw [show i + 1 + 2 = i + 2 + 1 by omega, ← List.drop_drop, h3]
      rfl
    by_cases hm0 : m = []
    · subst hm0
      obtain ⟨h1, h1', h2, h3⟩ := hb2 _ shown_4
      rw [List.append_assoc] at h3
      have hn := name_at h3 hr (fun c hc => by injection hc with hc; subst hc; exact further_ends.1)
      have hd := drop_more h3
      have hj : t[i + 1 + 2 + x.length]? = some 125 := by have := at_drop hd 0; simpa using this
      refine ⟨h2, i + 1 + 2 + x.length, ?_, hj, ?_⟩
      · unfold insertS
        rw [h1, if_neg (by decide), if_neg (by decide), if_pos rfl, h1', if_pos rfl, hn]
        simp only [thenS]
        rw [if_neg (by rw [hj]; decide)]
      · rw [shown_4]; simp; omega
    · have hmr : rightN m = true := hmk.resolve_left hm0
      obtain ⟨h1, h1', h2, h3⟩ := hb2 _ (shown_4m hm0)
      have h3' : t.drop (i + 1 + 2) = x ++ 46 :: (m ++ 125 :: y) := by rw [h3]; simp
      have hn := name_at h3' hr (fun c hc => by injection hc with hc; subst hc; exact further_ends.2.2)
      have hd := drop_more h3'
      have hj : t[i + 1 + 2 + x.length]? = some 46 := by have := at_drop hd 0; simpa using this
      have hd2 : t.drop (i + 1 + 2 + x.length + 1) = m ++ 125 :: y := by rw [← List.drop_drop, hd]; rfl
      have hn2 := name_at hd2 hmr (fun c hc => by injection hc with hc; subst hc; exact further_ends.1)
      have hd3 := drop_more hd2
      have hj2 : t[i + 1 + 2 + x.length + 1 + m.length]? = some 125 := by have := at_drop hd3 0; simpa using this
      refine ⟨h2, _, ?_, hj2, ?_⟩
      · unfold insertS
        rw [h1, if_neg (by decide), if_neg (by decide), if_pos rfl, h1', if_pos rfl, hn]
        simp only [thenS]
        rw [if_pos hj, hn2]
      · rw [shown_4m hm0]; simp; omega
  · obtain ⟨h1, h2, h3⟩ := hb _ _ shown_5 (by decide)
    have h3' : t.drop (i + 1 + 1) = x ++ 125 :: y := by rw [show i + 1 + 1 = i + 2 by omega, h3]; simp
    have hn := expr_at ht hx (by omega) h3' hpe
    have hd := drop_more h3'
    have hj : t[i + 1 + 1 + x.length]? = some 125 := by have := at_drop hd 0; simpa using this
    refine ⟨h2, _, ?_, hj, ?_⟩
    · unfold insertS
      rw [h1, if_neg (by decide), if_neg (by decide), if_neg (by decide), if_pos rfl, hn]
      rfl
    · rw [shown_5]; simp; omega
theorem shown_head {p : Pc} (hp : plainP p = true) (hk : p.kind ≠ 1) : ∃ c z, shownP p = 123 :: c :: z ∧ c ≠ 123 := by
  obtain ⟨_, hc⟩ := plain_split hp
  obtain ⟨k, x, m⟩ := p
  simp only at hc hk
  rcases hc with ⟨rfl, _⟩ | ⟨rfl, _⟩ | ⟨rfl, _⟩ | ⟨rfl, _⟩ | ⟨rfl, _⟩
  · exact absurd rfl hk
  · exact ⟨_, _, shown_2, by decide⟩
  · by_cases h : m = []
    · subst h; exact ⟨_, _, shown_3, by decide⟩
    · exact ⟨_, _, shown_3m h, by decide⟩
  · by_cases h : m = []
    · subst h; exact ⟨_, _, shown_4, by decide⟩
    · exact ⟨_, _, shown_4m h, by decide⟩
  · exact ⟨_, _, shown_5, by decide⟩
theorem braces_len : ∀ w : List Nat, w.length ≤ (bracesN w).length
  | [] => Nat.zero_le _
  | c :: w => by
    rw [braces_cons, List.length_append, List.length_cons]
    have := braces_len w
    split <;> simp <;> omega
theorem rightG_cons {w : Bool} {i : Nat} {p : Pc} {r : List Pc} (h : (rightG w i (p :: r)).2 = 0) : plainP p = true ∧ ¬ (w = true ∧ p.kind = 1) ∧ (rightG (decide (p.kind = 1)) (i + 1) r).2 = 0 := by
  rw [rightG] at h
  split at h
  · rename_i hc
    exact ⟨hc.1, hc.2, h⟩
  · cases h
theorem row_at {t : List Nat} (ht : Bytes t) : ∀ (ps : List Pc) (i f k : Nat) (o : List Pc) (w : Bool), t.drop i = ps.flatMap shownP → i ≤ t.length → o.length + ps.length ≤ 64 → (rightG w k ps).2 = 0 → (∀ p ∈ ps, Bytes p.text ∧ Bytes p.mark) → (ps.flatMap shownP).length ≤ f → rowS t f i o = (o ++ ps, 0, 0)
  | [], i, f, k, o, w, h, hi, _, _, _, _ => by
    have hl : t.length ≤ i := by
      have := congrArg List.length h
      rw [List.length_drop] at this
      simp at this
      omega
    rw [row_end rfl hl, List.append_nil]
  | p :: r, i, f, k, o, w, h, hi, h64, hr, hb, hf => by
    obtain ⟨hp, hnw, hr2⟩ := rightG_cons hr
    obtain ⟨hbx, hbm⟩ := hb p (by simp)
    have h' : t.drop i = shownP p ++ r.flatMap shownP := by rw [h]; rfl
    have hf' : (shownP p).length + (r.flatMap shownP).length ≤ f := by rw [← List.length_append]; exact hf
    rw [List.length_cons] at h64
    have hcont := fun j f' (hj : j = i + (shownP p).length) (hjl : j ≤ t.length) (hf2 : (r.flatMap shownP).length ≤ f') =>
      row_at ht r j f' (k + 1) (o ++ [p]) (decide (p.kind = 1)) (by rw [hj]; exact drop_more h') hjl (by rw [List.length_append, List.length_singleton]; omega) hr2 (fun q hq => hb q (List.mem_cons_of_mem _ hq)) hf2
    by_cases hk : p.kind = 1
    · obtain ⟨_, hc⟩ := plain_split hp
      obtain ⟨pk, x, m⟩ := p
      simp only at hk hc hbx
      subst hk
      have hx : x ≠ [] ∧ m = [] := by
        rcases hc with h | h | h | h | h
        · exact h.2
        all_goals (have := h.1; omega)
      obtain ⟨hx0, rfl⟩ := hx
      rw [shown_1] at h' hf' hcont
      have hpos : 0 < x.length := List.length_pos_iff.2 hx0
      have hbl := braces_len x
      have hbne : bracesN x ≠ [] := fun e => by rw [e, List.length_nil] at hbl; omega
      have hlen := drop_len h' hbne
      have hwe : WordEnd (r.flatMap shownP) := by
        cases r with
        | nil => exact .inl rfl
        | cons q s =>
          obtain ⟨hq, hqn, _⟩ := rightG_cons hr2
          obtain ⟨c, z, hs, hcn⟩ := shown_head hq (fun e => hqn ⟨by simp, e⟩)
          exact .inr ⟨c, z ++ s.flatMap shownP, by rw [List.flatMap_cons, hs]; rfl, hcn⟩
      have hw := word_at hwe x i t.length [] h' (by omega)
      rw [List.nil_append] at hw
      have hib : insB t i = false := by
        cases x with
        | nil => exact absurd rfl hx0
        | cons c z =>
          rw [braces_cons] at h'
          by_cases hc2 : c = 123 ∨ c = 125
          · rw [if_pos hc2] at h'
            have h0 := at_drop h' 0
            have h1 := at_drop h' 1
            simp at h0 h1
            unfold insB
            rw [h0, h1]
            rcases hc2 with rfl | rfl <;> rfl
          · rw [if_neg hc2] at h'
            have h0 := at_drop h' 0
            simp at h0
            unfold insB
            rw [h0]
            have : ¬ c = 123 := fun e => hc2 (.inl e)
            simp [this]
      rw [← row_word rfl (by omega) (by omega) (by omega) hib hw, hcont _ (f - 1) rfl (by omega) (by omega), List.append_assoc]
      rfl
    · obtain ⟨hib, j, hins, hj, hjl⟩ := ins_at ht hp hk hbx hbm h'
      have hjt := (List.getElem?_eq_some_iff.1 hj).1
      obtain ⟨c, z, hs, _⟩ := shown_head hp hk
      have hpos : 2 ≤ (shownP p).length := by rw [hs]; simp
      rw [← row_ins rfl (by omega) (by omega) (by omega) hib hins hj, hcont _ (f - 1) hjl (by omega) (by omega), List.append_assoc]
      rfl
theorem print_parse {ps : List Pc} {t : List Nat} (hb : ∀ p ∈ ps, Bytes p.text ∧ Bytes p.mark) (h : printP ps = (t, 0)) : rowN t = (ps, 0, 0) ∧ Bytes t ∧ t.length ≤ 4096 := by
  unfold printP at h
  split at h
  · rename_i hr
    injection h with _ h2
    exact absurd h2 hr
  · rename_i hr
    split at h
    · cases h
    · rename_i hl
      injection h with h1 _
      have hr0 : (rightP ps).2 = 0 := by omega
      have hbt : Bytes t := by
        rw [← h1]
        intro z hz
        obtain ⟨p, hp, hz⟩ := List.mem_flatMap.1 hz
        exact shown_bytes (hb p hp).1 (hb p hp).2 z hz
      have hl4 : t.length ≤ 4096 := by rw [← h1]; omega
      refine ⟨?_, hbt, hl4⟩
      have h64 := (right_plain hr0).1
      unfold rightP at hr0
      rw [if_neg (by omega)] at hr0
      unfold rowN
      rw [if_neg (by omega)]
      have := row_at hbt ps 0 t.length 0 [] false (by rw [List.drop_zero, h1]) (Nat.zero_le _) (by simpa using h64) hr0 hb (by rw [h1]; exact Nat.le_refl _)
      rw [List.nil_append] at this
      exact this
end Go.Proofs.YtpkggobhhieeoaaDoor
namespace Go.Proofs.YtpkggobhhieeoaaDoor
open Go.RowKit
def lastW (w : Bool) (l : List Pc) : Bool := match l.getLast? with
  | none => w
  | some p => decide (p.kind = 1)
theorem rightG_shift : ∀ (l : List Pc) (w : Bool) (i j : Nat), (rightG w i l).2 = 0 → (rightG w j l).2 = 0
  | [], _, _, _, _ => rfl
  | p :: r, w, i, j, h => by
    obtain ⟨h1, h2, h3⟩ := rightG_cons h
    rw [rightG, if_pos ⟨h1, h2⟩]
    exact rightG_shift r _ _ _ h3
theorem rightG_app : ∀ (a b : List Pc) (w : Bool) (i j : Nat), (rightG w i a).2 = 0 → (rightG (lastW w a) j b).2 = 0 → (rightG w i (a ++ b)).2 = 0
  | [], b, w, i, j, _, h => rightG_shift b w j i h
  | p :: r, b, w, i, j, h, h' => by
    obtain ⟨h1, h2, h3⟩ := rightG_cons h
    rw [List.cons_append, rightG, if_pos ⟨h1, h2⟩]
    refine rightG_app r b _ _ j h3 ?_
    have : lastW w (p :: r) = lastW (decide (p.kind = 1)) r := by
      unfold lastW
      cases r with
      | nil => rfl
      | cons q r => rw [List.getLast?_cons_cons, List.getLast?_cons]
    rwa [this] at h'
theorem rightG_true {b : List Pc} (h : (rightG false 0 b).2 = 0) (hn : ∀ q, b.head? = some q → ¬ q.kind = 1) : (rightG true 0 b).2 = 0 := by
  cases b with
  | nil => rfl
  | cons q r =>
    obtain ⟨h1, h2, h3⟩ := rightG_cons h
    rw [rightG, if_pos ⟨h1, fun e => hn q rfl e.2⟩]
    exact h3
theorem print_parts {l : List Pc} {s : List Nat} (h : printP l = (s, 0)) : (rightG false 0 l).2 = 0 ∧ l.length ≤ 64 ∧ l.flatMap shownP = s ∧ s.length ≤ 4096 := by
  unfold printP at h
  split at h
  · rename_i hr
    injection h with _ h2
    exact absurd h2 hr
  · rename_i hr
    split at h
    · cases h
    · rename_i hl
      injection h with h1 _
      unfold rightP at hr
      split at hr
      · simp at hr
      · rename_i h64
        exact ⟨by omega, by omega, h1, by rw [← h1]; omega⟩
theorem print_join {a b : List Pc} {s t : List Nat} (ha : printP a = (s, 0)) (hb : printP b = (t, 0)) (h64 : a.length + b.length ≤ 64) (h4 : s.length + t.length ≤ 4096)
    (hn : ∀ p q, a.getLast? = some p → b.head? = some q → ¬ (p.kind = 1 ∧ q.kind = 1)) : printP (a ++ b) = (s ++ t, 0) := by
  obtain ⟨a1, a2, a3, a4⟩ := print_parts ha
  obtain ⟨b1, b2, b3, b4⟩ := print_parts hb
  have hr : (rightG false 0 (a ++ b)).2 = 0 := by
    refine rightG_app a b false 0 0 a1 ?_
    unfold lastW
    cases hl : a.getLast? with
    | none => exact b1
    | some p =>
      by_cases hp : p.kind = 1
      · simp only [hp, decide_true]
        exact rightG_true b1 fun q hq e => hn p q hl hq ⟨hp, e⟩
      · simp only [hp, decide_false]
        exact b1
  have hf : (a ++ b).flatMap shownP = s ++ t := by rw [List.flatMap_append, a3, b3]
  have hR : (rightP (a ++ b)).2 = 0 := by
    unfold rightP
    rw [if_neg (by rw [List.length_append]; omega)]
    exact hr
  unfold printP
  rw [hR, if_neg (by simp), hf, if_neg (by rw [List.length_append]; omega)]
end Go.Proofs.YtpkggobhhieeoaaDoor
namespace Go.Proofs.YtpkggobhhieeoaaDoor
open Go.RowKit
theorem Cell.Is.one (x : List Value) (d : Cell) (h : Cell.Is x d) : ∀ u ∈ x, u.oneCell' = true := by
  obtain ⟨rfl, _⟩ := h
  intro u hu
  simp only [Cell.cells, List.mem_cons, List.mem_nil_iff, or_false] at hu
  rcases hu with rfl | rfl | rfl <;> rfl
theorem txt_join {s t : List Nat} (hs : Bytes s) (ht : Bytes t) : txt (s ++ t) = txt s ++ txt t := by
  apply bs_inj
  rw [bs_append, bs_txt hs, bs_txt ht, bs_txt (fun n hn => (List.mem_append.1 hn).elim (hs n) (ht n))]
theorem lawTj {l m : List Cell} {v u : Value} (w : World) (hs : SlR w w.heap.size 3 Cell.Is v l) (h47 : ∀ c ∈ l, c.lt47) (hf : l.length * 40 ≤ 140737488355328) (hs' : SlR w w.heap.size 3 Cell.Is u m) (h47' : ∀ c ∈ m, c.lt47) (hf' : m.length * 40 ≤ 140737488355328) (hm : Marks w) (hg : Signs w) :
    Calls Tryd.prog 5 #[v, u] w fun e w' => e = .returned (.bool true) ∧ Below w.heap.size w w' := by
  have h4w : 4 < w.heap.size := by
    obtain ⟨t, fr, h⟩ := signs_block hg
    rcases Nat.lt_or_ge 4 w.heap.size with h0 | h0
    · exact h0
    · rw [Array.getElem?_eq_none h0] at h; cases h
  obtain ⟨jp, hi, hz, hsz, hby⟩ := info_parts info_Piece
  have I := zH (And.intro hi (And.intro hz (And.intro hsz hby)))
  clear hi hz hsz hby
  obtain ⟨a, c, rfl⟩ : ∃ a c, v = .slice a l.length c := by obtain ⟨a, c, h, _⟩ := hs.form; exact ⟨a, c, h⟩
  obtain ⟨a', c', rfl⟩ : ∃ a c, u = .slice a m.length c := by obtain ⟨a, c, h, _⟩ := hs'.form; exact ⟨a, c, h⟩
  obtain ⟨n, hn⟩ : ∃ n, l.length = n := ⟨_, rfl⟩
  obtain ⟨k, hk⟩ : ∃ k, m.length = k := ⟨_, rfl⟩
  rw [hn] at hs hf ⊢
  rw [hk] at hs' hf' ⊢
  obtain ⟨⟨s, es⟩, hps⟩ : ∃ z, printP (l.map Cell.pc) = z := ⟨_, rfl⟩
  obtain ⟨⟨t, et⟩, hpt⟩ : ∃ z, printP (m.map Cell.pc) = z := ⟨_, rfl⟩
  obtain ⟨st, hst⟩ : ∃ z, txt s = z := ⟨_, rfl⟩
  obtain ⟨tt, htt⟩ : ∃ z, txt t = z := ⟨_, rfl⟩
  have AW := zH (awake_any w hm hg)
  have PR1 := zH (fun W (hW : Below w.heap.size w W) => (show Calls Tryd.prog 11 #[.slice a n c] W fun e w' => e = .returned (.tuple #[.string st, .int .i64 (es : Int)]) ∧ Below W.heap.size W w' by
    have := print_row W w hs h47 hm hg hW
    rwa [hps, hst] at this))
  have PR2 := zH (fun W (hW : Below w.heap.size w W) => (show Calls Tryd.prog 11 #[.slice a' k c'] W fun e w' => e = .returned (.tuple #[.string tt, .int .i64 (et : Int)]) ∧ Below W.heap.size W w' by
    have := print_row W w hs' h47' hm hg hW
    rwa [hpt, htt] at this))
  have HB : es = 0 → et = 0 → st.size ≤ 4096 ∧ tt.size ≤ 4096 := fun h1 h2 => by
    subst h1 h2
    rw [← hst, ← htt, txt_size, txt_size]
    exact ⟨(print_parts hps).2.2.2, (print_parts hpt).2.2.2⟩
  have HMG := zH (fun W (hW : Below w.heap.size w W) => And.intro (hm.below hW) (hg.of_block (hW.block 4 h4w)))
  obtain ⟨nk, hnk⟩ : ∃ z, l.length + m.length = z := ⟨_, rfl⟩
  have HNK := zH hnk
  clear hnk
  have HJ : es = 0 → et = 0 → n + k ≤ 64 → st.size + tt.size ≤ 4096 → (∀ p q, (l.map Cell.pc).getLast? = some p → (m.map Cell.pc).head? = some q → ¬ (p.kind = 1 ∧ q.kind = 1)) →
      Hid (printP ((l ++ m).map Cell.pc) = (s ++ t, 0) ∧ txt (s ++ t) = st ++ tt ∧ ∀ W, Below w.heap.size w W → Calls Tryd.prog 7 #[.string (st ++ tt)] W (RowIs W ((l ++ m).map Cell.pc, 0, 0))) := fun h1 h2 h3 h4 h5 => zH (by
    subst h1 h2
    have e1 := (print_parse (pcs_bytes l) hps).2.1
    have e2 := (print_parse (pcs_bytes m) hpt).2.1
    have e3 : txt (s ++ t) = st ++ tt := by rw [txt_join e1 e2, hst, htt]
    have e4 : printP ((l ++ m).map Cell.pc) = (s ++ t, 0) := by
      rw [List.map_append]
      refine print_join hps hpt (by rw [List.length_map, List.length_map]; omega) ?_ h5
      rw [← hst, ← htt, txt_size, txt_size] at h4
      exact h4
    refine ⟨e4, e3, fun W hW => ?_⟩
    obtain ⟨g1, g2, g3⟩ := print_parse (pcs_bytes (l ++ m)) e4
    have := row_any (txt (s ++ t)) (by rw [txt_size]; unfold maxLen; omega) W (hm.below hW) (hg.of_block (hW.block 4 h4w))
    rwa [bs_txt g2, g1, e3] at this)
  have H47 := zH (show ∀ c ∈ l ++ m, c.lt47 from fun c hc => (List.mem_append.1 hc).elim (h47 c) (h47' c))
  have Hs := zH hs
  have Hs' := zH hs'
  have HN := zH hn
  have HK := zH hk
  have HF := zH (And.intro hf hf')
  have sz1 : (n : Int) + (k : Int) ≤ 9223372036854775807 := by omega
  have sz0 : (0 : Int) ≤ (n : Int) + (k : Int) := by omega
  clear hs hs' h47 h47' hm hg h4w hps hpt hst htt hn hk hf hf'
  go_enter Tryd.func5, Tryd.ntmps5
  have tokA : True := trivial
  go_upto_region 5 with (first
    | (go_at_call 10; (refine AW.out.mono ?_); rintro e w1 ⟨rfl, h1⟩; have B1 := zH h1; clear h1)
    | (have _t := tokA; go_at_call 11; clear tokA _t; (refine (PR1.out _ B1.out).mono ?_); rintro e w2 ⟨rfl, h1⟩; have B2 := zH (B1.out.trans (h1.mono B1.out.size)); clear h1)
    | (go_at_call 11; (refine (PR2.out _ B2.out).mono ?_); rintro e w3 ⟨rfl, h1⟩; have B3 := zH (B2.out.trans (h1.mono B2.out.size)); clear h1))
  clear B1 B2 AW PR1 PR2
  by_cases h1 : es = 0
  · subst h1
    by_cases h2 : et = 0
    · subst h2
      obtain ⟨z1, z2⟩ := HB rfl rfl
      have z3 : (st.size : Int) + (tt.size : Int) ≤ 8192 := by omega
      have z4 : (0 : Int) ≤ (st.size : Int) + (tt.size : Int) := by omega
      clear HB
      by_cases h3 : 64 < n + k
      · have d1 : (64 : Int) < (n : Int) + (k : Int) := by omega
        have d2 : decide ((64 : Int) < (n : Int) + (k : Int)) = true := decide_eq_true d1
        clear HJ
        go_wp2_with fail
        go_ret
        exact ⟨rfl, B3.out⟩
      · have d1 : ¬ (64 : Int) < (n : Int) + (k : Int) := by omega
        have d2 : decide ((64 : Int) < (n : Int) + (k : Int)) = false := decide_eq_false d1
        by_cases h4 : 4096 < st.size + tt.size
        · have d3 : (4096 : Int) < (st.size : Int) + (tt.size : Int) := by omega
          have d4 : decide ((4096 : Int) < (st.size : Int) + (tt.size : Int)) = true := decide_eq_true d3
          clear HJ
          go_wp2_with fail
          go_ret
          exact ⟨rfl, B3.out⟩
        · have d3 : ¬ (4096 : Int) < (st.size : Int) + (tt.size : Int) := by omega
          have d4 : decide ((4096 : Int) < (st.size : Int) + (tt.size : Int)) = false := decide_eq_false d3
          have HJ2 := HJ rfl rfl (by omega) (by omega)
          clear HJ
          have tokB : True := trivial
          go_upto_region 7 with fail
          clear d1 d2 d3 d4
          rcases Nat.eq_zero_or_pos n with hn0 | hn0
          · subst hn0
            have J := HJ2 (fun p q hp _ => by rw [List.eq_nil_of_length_eq_zero HN.out] at hp; cases hp)
            clear HJ2
            go_upto_region 9 with fail
            go_wp2_with (first
              | (at_builtin; have _t := tokB; go_must (refine wpList_append_list rfl (.tmp 74) (.tmp 75) _ rfl w3.heap.size w.heap.size 30 jp _ 3 40 Tryd.underlying22 I.out.1 I.out.2.1 I.out.2.2.1 I.out.2.2.2 rfl (by omega) (R := Cell.Is) (l := []) (m := l) (.slice (some ⟨w3.heap.size, 0, none⟩) 0 0) rfl (by exact Own1.empty rfl zL) a 0 c rfl (by exact Hs.out.below (B3.out.alloc B3.out.size _)) 0 (by simp) Cell.Is.one (by have h := HF.out; rw [List.length_nil, Nat.zero_add]; unfold maxLen; omega) (by have h := HF.out; rw [List.length_nil, Nat.zero_add]; omega) (by simp) ?_); clear tokB _t; intro xa xc w4 hown hgr; rw [List.nil_append] at hown; have O4 := zH hown; have B4 := zH (((Below.refl w3.heap.size w3).alloc zL _).trans (below_of_grown (Own1.empty (R := Cell.Is) (size := 3) rfl zL) (by simp) hgr)); clear hown hgr)
              | (at_builtin; go_must (refine wpList_append_list rfl (.tmp 76) (.tmp 77) _ rfl w3.heap.size w.heap.size 30 jp _ 3 40 Tryd.underlying22 I.out.1 I.out.2.1 I.out.2.2.1 I.out.2.2.2 rfl (by omega) (R := Cell.Is) (l := l) (m := m) (.slice xa 0 xc) rfl (by exact O4.out) (a') k c' rfl (by exact Hs'.out.below (B3.out.trans (B4.out.mono B3.out.size))) nk (by have h := HNK.out; have h' := HK.out; omega) Cell.Is.one (by have := HF.out; rw [HN.out]; unfold maxLen; omega) (by have := HF.out; rw [HN.out]; omega) B4.out.size ?_); intro ya yc w5 hown hgr; have O5 := zH hown; have B5 := zH (B3.out.trans ((B4.out.trans (below_of_grown O4.out B4.out.size hgr)).mono B3.out.size)); have G5 := zH (HMG.out _ B5.out); clear hown hgr)
              | (go_at_call 11; go_must (with_reducible refine (print_row (w := w5) (w0 := w5) (l := l ++ m) (O5.out.read (by decide)) H47.out G5.out.1 G5.out.2 zB).mono ?_); go_must (rw [J.out.1, J.out.2.1]); rintro e w6 ⟨rfl, h1⟩; have B6 := zH (B5.out.trans (h1.mono B5.out.size)); have O6 := zH (O5.out.below h1 zL); clear h1)
              | (go_at_call 7; go_must (refine (J.out.2.2 _ B6.out).mono ?_); rintro e w7 ⟨v7, rfl, h1, h2⟩; obtain ⟨a7, c7, hv7⟩ := h1.form; go_must (rw [List.length_map, List.length_append, HNK.out] at hv7); subst hv7; go_must (have SM := zH (same_pieces w7 w7 (own_cells h1 zB) ((O6.out.below h2 zL).read (by decide)) zB)); go_must (rw [cells_pc, decide_eq_true (rfl : l ++ m = l ++ m)] at SM); have B7 := zH (B6.out.trans (h2.mono B6.out.size)); clear h1 h2)
              | (go_at_call 9; go_must (refine SM.out.mono ?_); rintro e w8 ⟨rfl, h1⟩; go_must (have B8 := zH (B7.out.trans (h1.below _))); clear h1))
            go_ret
            exact ⟨rfl, B8.out⟩
          · rcases Nat.eq_zero_or_pos k with hk0 | hk0
            · subst hk0
              have d5 : decide ((0 : Int) < (n : Int)) = true := decide_eq_true (by omega)
              have J := HJ2 (fun p q _ hq => by rw [List.eq_nil_of_length_eq_zero HK.out] at hq; cases hq)
              clear HJ2
              go_upto_region 9 with fail
              go_wp2_with (first
                | (at_builtin; have _t := tokB; go_must (refine wpList_append_list rfl (.tmp 74) (.tmp 75) _ rfl w3.heap.size w.heap.size 30 jp _ 3 40 Tryd.underlying22 I.out.1 I.out.2.1 I.out.2.2.1 I.out.2.2.2 rfl (by omega) (R := Cell.Is) (l := []) (m := l) (.slice (some ⟨w3.heap.size, 0, none⟩) 0 0) rfl (by exact Own1.empty rfl zL) a n c rfl (by exact Hs.out.below (B3.out.alloc B3.out.size _)) n (by simp) Cell.Is.one (by have h := HF.out; rw [List.length_nil, Nat.zero_add]; unfold maxLen; omega) (by have h := HF.out; rw [List.length_nil, Nat.zero_add]; omega) (by simp) ?_); clear tokB _t; intro xa xc w4 hown hgr; rw [List.nil_append] at hown; have O4 := zH hown; have B4 := zH (((Below.refl w3.heap.size w3).alloc zL _).trans (below_of_grown (Own1.empty (R := Cell.Is) (size := 3) rfl zL) (by simp) hgr)); clear hown hgr)
                | (at_builtin; go_must (refine wpList_append_list rfl (.tmp 76) (.tmp 77) _ rfl w3.heap.size w.heap.size 30 jp _ 3 40 Tryd.underlying22 I.out.1 I.out.2.1 I.out.2.2.1 I.out.2.2.2 rfl (by omega) (R := Cell.Is) (l := l) (m := m) (.slice xa n xc) rfl (by exact O4.out) (a') 0 c' rfl (by exact Hs'.out.below (B3.out.trans (B4.out.mono B3.out.size))) nk (by have h := HNK.out; have h' := HK.out; omega) Cell.Is.one (by have := HF.out; rw [HN.out]; unfold maxLen; omega) (by have := HF.out; rw [HN.out]; omega) B4.out.size ?_); intro ya yc w5 hown hgr; have O5 := zH hown; have B5 := zH (B3.out.trans ((B4.out.trans (below_of_grown O4.out B4.out.size hgr)).mono B3.out.size)); have G5 := zH (HMG.out _ B5.out); clear hown hgr)
                | (go_at_call 11; go_must (with_reducible refine (print_row (w := w5) (w0 := w5) (l := l ++ m) (O5.out.read (by decide)) H47.out G5.out.1 G5.out.2 zB).mono ?_); go_must (rw [J.out.1, J.out.2.1]); rintro e w6 ⟨rfl, h1⟩; have B6 := zH (B5.out.trans (h1.mono B5.out.size)); have O6 := zH (O5.out.below h1 zL); clear h1)
                | (go_at_call 7; go_must (refine (J.out.2.2 _ B6.out).mono ?_); rintro e w7 ⟨v7, rfl, h1, h2⟩; obtain ⟨a7, c7, hv7⟩ := h1.form; go_must (rw [List.length_map, List.length_append, HNK.out] at hv7); subst hv7; go_must (have SM := zH (same_pieces w7 w7 (own_cells h1 zB) ((O6.out.below h2 zL).read (by decide)) zB)); go_must (rw [cells_pc, decide_eq_true (rfl : l ++ m = l ++ m)] at SM); have B7 := zH (B6.out.trans (h2.mono B6.out.size)); clear h1 h2)
                | (go_at_call 9; go_must (refine SM.out.mono ?_); rintro e w8 ⟨rfl, h1⟩; go_must (have B8 := zH (B7.out.trans (h1.below _))); clear h1))
              go_ret
              exact ⟨rfl, B8.out⟩
            · have d5 : decide ((0 : Int) < (n : Int)) = true := decide_eq_true (by omega)
              have d6 : decide ((0 : Int) < (k : Int)) = true := decide_eq_true (by omega)
              have d7 : (0 : Int) ≤ (n : Int) - 1 := by omega
              have d8 : (n : Int) - 1 < (n : Int) := by omega
              obtain ⟨x, hx⟩ : ∃ x, l[n - 1]? = some x := ⟨l[n - 1]'(by have := HN.out; omega), List.getElem?_eq_getElem _⟩
              obtain ⟨y, hy⟩ : ∃ y, m[0]? = some y := ⟨m[0]'(by have := HK.out; omega), List.getElem?_eq_getElem _⟩
              have hlx : (l.map Cell.pc).getLast? = some x.pc := by rw [List.getLast?_eq_getElem?, List.length_map, HN.out, List.getElem?_map, hx]; rfl
              have hhy : (m.map Cell.pc).head? = some y.pc := by rw [List.head?_eq_getElem?, List.getElem?_map, hy]; rfl
              have HLX := zH (And.intro hlx hhy)
              obtain ⟨b1, off1, x1, ha1, hb1, _, ⟨rfl, _⟩, hc1⟩ := (Hs.out.below B3.out).at_ hx
              obtain ⟨b2, off2, x2, ha2, hb2, _, ⟨rfl, _⟩, hc2⟩ := (Hs'.out.below B3.out).at_ hy
              subst ha1 ha2
              have f1 := hc1 0 _ rfl
              have f2 := hc2 0 _ rfl
              rw [Nat.add_zero] at f1
              simp only [Nat.zero_mul, Nat.add_zero] at f2
              obtain ⟨kx, hkx⟩ : ∃ z, x.kind = z := ⟨_, rfl⟩
              obtain ⟨ky, hky⟩ : ∃ z, y.kind = z := ⟨_, rfl⟩
              have HKX := zH (And.intro hkx hky)
              rw [hkx] at f1
              rw [hky] at f2
              have fz : ((n : Int) - 1).toNat = n - 1 := by omega
              clear hc1 hc2 hx hy hlx hhy hkx hky
              by_cases k1 : kx = 1
              · subst k1
                by_cases k2 : ky = 1
                · subst k2
                  clear HJ2
                  go_wp2_with fail
                  go_ret
                  exact ⟨rfl, B3.out⟩
                · have d9 : (ky == 1) = false := by simpa using k2
                  have J := HJ2 (fun p q hp hq e => by rw [HLX.out.1] at hp; rw [HLX.out.2] at hq; injection hp with hp; injection hq with hq; subst hp hq; exact k2 (HKX.out.2.symm.trans e.2))
                  clear HJ2
                  go_upto_region 9 with fail
                  go_wp2_with (first
                    | (at_builtin; have _t := tokB; go_must (refine wpList_append_list rfl (.tmp 74) (.tmp 75) _ rfl w3.heap.size w.heap.size 30 jp _ 3 40 Tryd.underlying22 I.out.1 I.out.2.1 I.out.2.2.1 I.out.2.2.2 rfl (by omega) (R := Cell.Is) (l := []) (m := l) (.slice (some ⟨w3.heap.size, 0, none⟩) 0 0) rfl (by exact Own1.empty rfl zL) (some ⟨b1, off1, none⟩) n c rfl (by exact Hs.out.below (B3.out.alloc B3.out.size _)) n (by simp) Cell.Is.one (by have h := HF.out; rw [List.length_nil, Nat.zero_add]; unfold maxLen; omega) (by have h := HF.out; rw [List.length_nil, Nat.zero_add]; omega) (by simp) ?_); clear tokB _t; intro xa xc w4 hown hgr; rw [List.nil_append] at hown; have O4 := zH hown; have B4 := zH (((Below.refl w3.heap.size w3).alloc zL _).trans (below_of_grown (Own1.empty (R := Cell.Is) (size := 3) rfl zL) (by simp) hgr)); clear hown hgr)
                    | (at_builtin; go_must (refine wpList_append_list rfl (.tmp 76) (.tmp 77) _ rfl w3.heap.size w.heap.size 30 jp _ 3 40 Tryd.underlying22 I.out.1 I.out.2.1 I.out.2.2.1 I.out.2.2.2 rfl (by omega) (R := Cell.Is) (l := l) (m := m) (.slice xa n xc) rfl (by exact O4.out) ((some ⟨b2, off2, none⟩)) k c' rfl (by exact Hs'.out.below (B3.out.trans (B4.out.mono B3.out.size))) nk (by have h := HNK.out; have h' := HK.out; omega) Cell.Is.one (by have := HF.out; rw [HN.out]; unfold maxLen; omega) (by have := HF.out; rw [HN.out]; omega) B4.out.size ?_); intro ya yc w5 hown hgr; have O5 := zH hown; have B5 := zH (B3.out.trans ((B4.out.trans (below_of_grown O4.out B4.out.size hgr)).mono B3.out.size)); have G5 := zH (HMG.out _ B5.out); clear hown hgr)
                    | (go_at_call 11; go_must (with_reducible refine (print_row (w := w5) (w0 := w5) (l := l ++ m) (O5.out.read (by decide)) H47.out G5.out.1 G5.out.2 zB).mono ?_); go_must (rw [J.out.1, J.out.2.1]); rintro e w6 ⟨rfl, h1⟩; have B6 := zH (B5.out.trans (h1.mono B5.out.size)); have O6 := zH (O5.out.below h1 zL); clear h1)
                    | (go_at_call 7; go_must (refine (J.out.2.2 _ B6.out).mono ?_); rintro e w7 ⟨v7, rfl, h1, h2⟩; obtain ⟨a7, c7, hv7⟩ := h1.form; go_must (rw [List.length_map, List.length_append, HNK.out] at hv7); subst hv7; go_must (have SM := zH (same_pieces w7 w7 (own_cells h1 zB) ((O6.out.below h2 zL).read (by decide)) zB)); go_must (rw [cells_pc, decide_eq_true (rfl : l ++ m = l ++ m)] at SM); have B7 := zH (B6.out.trans (h2.mono B6.out.size)); clear h1 h2)
                    | (go_at_call 9; go_must (refine SM.out.mono ?_); rintro e w8 ⟨rfl, h1⟩; go_must (have B8 := zH (B7.out.trans (h1.below _))); clear h1))
                  go_ret
                  exact ⟨rfl, B8.out⟩
              · have d9 : (kx == 1) = false := by simpa using k1
                have J := HJ2 (fun p q hp hq e => by rw [HLX.out.1] at hp; rw [HLX.out.2] at hq; injection hp with hp; injection hq with hq; subst hp hq; exact k1 (HKX.out.1.symm.trans e.1))
                clear HJ2
                go_upto_region 9 with fail
                go_wp2_with (first
                  | (at_builtin; have _t := tokB; go_must (refine wpList_append_list rfl (.tmp 74) (.tmp 75) _ rfl w3.heap.size w.heap.size 30 jp _ 3 40 Tryd.underlying22 I.out.1 I.out.2.1 I.out.2.2.1 I.out.2.2.2 rfl (by omega) (R := Cell.Is) (l := []) (m := l) (.slice (some ⟨w3.heap.size, 0, none⟩) 0 0) rfl (by exact Own1.empty rfl zL) (some ⟨b1, off1, none⟩) n c rfl (by exact Hs.out.below (B3.out.alloc B3.out.size _)) n (by simp) Cell.Is.one (by have h := HF.out; rw [List.length_nil, Nat.zero_add]; unfold maxLen; omega) (by have h := HF.out; rw [List.length_nil, Nat.zero_add]; omega) (by simp) ?_); clear tokB _t; intro xa xc w4 hown hgr; rw [List.nil_append] at hown; have O4 := zH hown; have B4 := zH (((Below.refl w3.heap.size w3).alloc zL _).trans (below_of_grown (Own1.empty (R := Cell.Is) (size := 3) rfl zL) (by simp) hgr)); clear hown hgr)
                  | (at_builtin; go_must (refine wpList_append_list rfl (.tmp 76) (.tmp 77) _ rfl w3.heap.size w.heap.size 30 jp _ 3 40 Tryd.underlying22 I.out.1 I.out.2.1 I.out.2.2.1 I.out.2.2.2 rfl (by omega) (R := Cell.Is) (l := l) (m := m) (.slice xa n xc) rfl (by exact O4.out) ((some ⟨b2, off2, none⟩)) k c' rfl (by exact Hs'.out.below (B3.out.trans (B4.out.mono B3.out.size))) nk (by have h := HNK.out; have h' := HK.out; omega) Cell.Is.one (by have := HF.out; rw [HN.out]; unfold maxLen; omega) (by have := HF.out; rw [HN.out]; omega) B4.out.size ?_); intro ya yc w5 hown hgr; have O5 := zH hown; have B5 := zH (B3.out.trans ((B4.out.trans (below_of_grown O4.out B4.out.size hgr)).mono B3.out.size)); have G5 := zH (HMG.out _ B5.out); clear hown hgr)
                  | (go_at_call 11; go_must (with_reducible refine (print_row (w := w5) (w0 := w5) (l := l ++ m) (O5.out.read (by decide)) H47.out G5.out.1 G5.out.2 zB).mono ?_); go_must (rw [J.out.1, J.out.2.1]); rintro e w6 ⟨rfl, h1⟩; have B6 := zH (B5.out.trans (h1.mono B5.out.size)); have O6 := zH (O5.out.below h1 zL); clear h1)
                  | (go_at_call 7; go_must (refine (J.out.2.2 _ B6.out).mono ?_); rintro e w7 ⟨v7, rfl, h1, h2⟩; obtain ⟨a7, c7, hv7⟩ := h1.form; go_must (rw [List.length_map, List.length_append, HNK.out] at hv7); subst hv7; go_must (have SM := zH (same_pieces w7 w7 (own_cells h1 zB) ((O6.out.below h2 zL).read (by decide)) zB)); go_must (rw [cells_pc, decide_eq_true (rfl : l ++ m = l ++ m)] at SM); have B7 := zH (B6.out.trans (h2.mono B6.out.size)); clear h1 h2)
                  | (go_at_call 9; go_must (refine SM.out.mono ?_); rintro e w8 ⟨rfl, h1⟩; go_must (have B8 := zH (B7.out.trans (h1.below _))); clear h1))
                go_ret
                exact ⟨rfl, B8.out⟩
    · have dd : ((et : Int) != 0) = true := by simpa using h2
      have dd2 : (et : Int) ≠ 0 := by omega
      clear HB HJ h2
      go_wp2_with fail
      go_ret
      exact ⟨rfl, B3.out⟩
  · have dd : ((es : Int) != 0) = true := by simpa using h1
    have dd2 : (es : Int) ≠ 0 := by omega
    clear HB HJ h1
    go_wp2_with fail
    go_ret
    exact ⟨rfl, B3.out⟩
end Go.Proofs.YtpkggobhhieeoaaDoor
