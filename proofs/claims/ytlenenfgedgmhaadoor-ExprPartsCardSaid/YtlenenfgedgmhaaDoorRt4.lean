/- What is read is a tree of nodes that may be; the plain laws of telling and reading again. -/
import Derived.Test.YtlenenfgedgmhaaDoorRt3
namespace Go.Proofs.YtlenenfgedgmhaaDoor
set_option linter.unusedSimpArgs false
set_option linter.unusedVariables false

/-- a token from which a node that may be is made -/
def TokOk (t : Tok) : Prop := Bytes t.text ∧ (t.kind = 1 → 0 ≤ t.num ∧ t.num ≤ 9223372036854775807) ∧ (t.kind = 2 → t.text.length ≤ 4096) ∧ (t.kind = 3 → plainN t.text = true)
theorem tok_text {r : List Nat} (hr : Bytes r) {k n : Nat} {s : List Nat} {v : Int} (h : tokR r = (some (k, s, v), n)) (hk : k = 2) : s.length ≤ r.length := by
  subst hk
  cases r with
  | nil => cases h
  | cons c t =>
    have ht : Bytes t := fun x hx => hr x (List.mem_cons_of_mem _ hx)
    by_cases h34 : c = 34
    · subst h34
      rw [tokR_quote] at h
      cases hq : qR t with
      | mk a m =>
        cases a with
        | none => rw [hq] at h; cases h
        | some u =>
          rw [hq] at h
          simp only [Option.map_some, Prod.mk.injEq, Option.some.injEq] at h
          obtain ⟨⟨_, rfl, _⟩, rfl⟩ := h
          obtain ⟨h1, h2, _, p, h4, h5⟩ := qR_bound _ _ (Nat.le_refl _) ht _ _ hq
          have hl : u.length ≤ (u.flatMap formN).length := by
            have : ∀ u : List Nat, u.length ≤ (u.flatMap formN).length := by
              intro u
              induction u with
              | nil => simp
              | cons c u ih => rw [List.flatMap_cons, List.length_append, List.length_cons]; have := (form_len c).1; omega
            exact this u
          have := congrArg List.length h4
          rw [List.length_take, List.length_append, List.length_singleton, h5] at this
          rw [List.length_cons]
          omega
    · rw [tokR_step h34] at h
      by_cases hd : 48 ≤ c ∧ c ≤ 57
      · rw [stepP_digit hd] at h
        split at h
        · simp at h
        · cases h
      · by_cases hlet : letterN c = true
        · rw [stepP_letter hlet] at h
          split at h
          · simp only [Prod.mk.injEq, Option.some.injEq] at h
            obtain ⟨⟨h, _⟩, _⟩ := h
            split at h <;> omega
          · cases h
        · rw [stepP_mark hd hlet] at h
          split at h
          · cases h
          · simp at h
theorem run_text {r : List Nat} {i : Nat} {T : List Tok} {r' : List Nat} {i' : Nat} (h : Run r i T r' i') (hr : Bytes r) : ∀ t ∈ T, t.kind = 2 → t.text.length ≤ r.length := by
  induction h with
  | done r i => intro t h; cases h
  | blank hb h ih => intro t ht hk; have := ih (fun x hx => hr x (List.mem_cons_of_mem _ hx)) t ht hk; rw [List.length_cons]; omega
  | @tok r i k s v n T r' i' hnb ht h ih =>
    intro t hx hk
    rcases List.mem_cons.1 hx with rfl | hx
    · exact tok_text hr ht (by simp only at hk; omega)
    · have := ih (bytes_drop hr n) t hx hk
      rw [List.length_drop] at this
      omega
theorem scan_toks {s : List Nat} (hs : Bytes s) (h4 : s.length ≤ 4096) {T : List Tok} {i' : Nat} (h : Run s 0 T [] i') : ∀ t ∈ T, TokOk t := by
  obtain ⟨h1, h2⟩ := run_may h hs
  intro t ht
  have hm := h1 t ht
  obtain ⟨f1, f2, f3⟩ := h2 t ht
  have hl := run_text h hs t ht
  refine ⟨f1, fun k1 => ?_, fun k2 => by have := hl k2; omega, fun k3 => ?_⟩
  · unfold mayN at hm
    rw [if_pos k1, Bool.and_eq_true, decide_eq_true_eq] at hm
    exact ⟨hm.1, f3⟩
  · unfold mayN at hm
    rw [if_neg (by omega)] at hm
    split at hm
    · cases hm
    · rw [if_neg (by omega)] at hm
      exact hm
/-- what is read is a tree of nodes that may be -/
def GoodR : PR → Prop
  | .ok t _ => t.Good
  | _ => True
theorem GoodR.bind {r : PR} {g : Tr → Nat → PR} (h : GoodR r) (hg : ∀ t j, t.Good → GoodR (g t j)) : GoodR (r.bind g) := by
  cases r with
  | ok t j => exact hg t j h
  | no j => trivial
  | out => trivial
theorem GoodR.want {l : List Tok} {a : Nat} {s : List Nat} {r : PR} (h : GoodR r) : GoodR (want l a s r) := by
  unfold Go.Proofs.YtlenenfgedgmhaaDoor.want
  split
  · exact h
  · trivial
theorem signK_mem {l : List Tok} {n i : Nat} (h : signK l n i ≠ 0) : ∃ x ∈ signsL, x.2.2 = n ∧ x.2.1 = signK l n i := by
  unfold signK at h ⊢
  cases hx : signsL.find? (fun x => decide (x.2.2 = n) && isT l i x.1) with
  | none => rw [hx] at h; exact absurd rfl h
  | some x =>
    have h1 := List.find?_some hx
    rw [Bool.and_eq_true] at h1
    exact ⟨x, List.mem_of_find?_eq_some hx, of_decide_eq_true h1.1, rfl⟩
theorem good0 {k : Nat} {s : List Nat} {n : Int} {ks : List Tr} (h : Shape k s n ks) (hb : Bytes s) (h1 : -9223372036854775808 ≤ n) (h2 : n ≤ 9223372036854775807) (hk : GoodL ks) : (Tr.node k s n ks).Good := ⟨⟨h, hb, h1, h2⟩, hk⟩
theorem goodZ {k : Nat} {s : List Nat} {ks : List Tr} (h : Shape k s 0 ks) (hb : Bytes s) (hk : GoodL ks) : (Tr.node k s 0 ks).Good := ⟨⟨h, hb, by omega, by omega⟩, hk⟩
section
variable {l : List Tok} (hl : ∀ t ∈ l, TokOk t)
include hl
theorem GoodR.name {a : Nat} {g : List Nat → PR} (h : ∀ s, Bytes s → plainN s = true → GoodR (g s)) : GoodR (nameAt l a g) := by
  unfold nameAt
  cases ha : l[a]? with
  | none => trivial
  | some t =>
    simp only
    have := hl t (List.mem_iff_getElem?.2 ⟨a, ha⟩)
    split
    · rename_i hk; exact h _ this.1 (this.2.2.2 hk)
    · trivial
theorem p_good : ∀ f : Nat, (∀ n i, n ≤ 7 → GoodR (pL l f n i)) ∧ (∀ n t i, n < 7 → t.Good → GoodR (pR l f n t i)) ∧ (∀ t i, t.Good → GoodR (pQ l f t i)) ∧ (∀ i, GoodR (pP l f i))
  | 0 => ⟨fun n i _ => by rw [pL]; trivial, fun n t i _ _ => by rw [pR]; trivial, fun t i _ => by rw [pQ]; trivial, fun i => by rw [pP]; trivial⟩
  | f + 1 => by
    obtain ⟨hL, hR, hQ, hP⟩ := p_good f
    refine ⟨fun n i h7 => ?_, fun n t i h7 ht => ?_, fun t i ht => ?_, fun i => ?_⟩
    · rw [pL]
      split
      · split
        · exact (hL 3 (i + 1) (by omega)).bind (fun t j h => goodZ .not_ bytes_nil ⟨h, trivial⟩)
        · exact hL 4 i (by omega)
      · split
        · exact (hP i).bind (fun t j h => hQ t j h)
        · exact (hL (n + 1) i (by omega)).bind (fun t j h => hR n t j (by omega) h)
    · rw [pR]
      split
      · exact ht
      · rename_i h0
        obtain ⟨x, hx, e1, e2⟩ := signK_mem h0
        refine (hL (n + 1) (i + 1) (by omega)).bind (fun r j h => ?_)
        have hg : (Tr.node (signK l n i) [] 0 [t, r]).Good := by
          rw [← e2]
          exact goodZ (.bin hx (by omega)) bytes_nil ⟨ht, h, trivial⟩
        split
        · exact hg
        · exact hR n _ j h7 hg
    · rw [pQ]
      split
      · exact ht
      · rename_i h0
        obtain ⟨x, hx, e1, e2⟩ := signK_mem h0
        split
        · exact hQ _ (i + 1) (goodZ .parent bytes_nil ⟨ht, trivial⟩)
        · rename_i h11
          refine GoodR.name hl (fun s hb hp => hQ _ (i + 2) ?_)
          rw [← e2]
          exact goodZ (.post hx e1 (by omega) hp) hb ⟨ht, trivial⟩
    · cases hx : l[i]? with
      | none => rw [pP_none f hx]; trivial
      | some t =>
        rw [pP_some f hx]
        obtain ⟨t1, t2, t3, t4⟩ := hl t (List.mem_iff_getElem?.2 ⟨i, hx⟩)
        split
        · rename_i h1
          obtain ⟨a1, a2⟩ := t2 h1
          exact good0 (.int (by omega)) bytes_nil (by omega) a2 trivial
        split
        · rename_i h2
          exact goodZ (.text (t3 h2)) t1 trivial
        split
        · rename_i h3
          exact goodZ (.name (t4 h3)) t1 trivial
        split
        · unfold markR
          split
          · cases hy : l[i + 1]? with
            | none => trivial
            | some x =>
              simp only
              split
              · rename_i h1
                obtain ⟨b1, b2, _⟩ := hl x (List.mem_iff_getElem?.2 ⟨i + 1, hy⟩)
                obtain ⟨c1, c2⟩ := b2 h1
                exact good0 (.int (by omega)) bytes_nil (by omega) (by omega) trivial
              · trivial
          · split
            · exact (hL 1 (i + 1) (by omega)).bind (fun k j h => GoodR.want h)
            · trivial
        · have hone : ∀ s, (oneN s).1 ≠ 0 → ∃ y ∈ onesL, y.2 = oneN s := by
            intro s h
            unfold oneN at h ⊢
            cases hf : onesL.find? (fun x => decide (x.1 = s)) with
            | none => rw [hf] at h; exact absurd rfl h
            | some y => exact ⟨y, List.mem_of_find?_eq_some hf, rfl⟩
          unfold wordR
          split
          · trivial
          rename_i h0
          obtain ⟨y, hy, e⟩ := hone _ h0
          have e1 : (oneN t.text).1 = y.2.1 := by rw [← e]
          have e2 : (oneN t.text).2 = y.2.2 := by rw [← e]
          rw [e1, e2]
          split
          · rename_i h; exact goodZ (.zero hy h) bytes_nil trivial
          split
          · rename_i h
            exact GoodR.want ((hL 1 (i + 2) (by omega)).bind (fun a j ha => GoodR.want (goodZ (.one hy h) bytes_nil ⟨ha, trivial⟩)))
          split
          · rename_i h
            exact GoodR.name hl (fun s hb hp => GoodR.want ((hL 1 (i + 3) (by omega)).bind (fun a j ha => GoodR.want ((hL 1 (j + 1) (by omega)).bind (fun b m hb' => GoodR.want (goodZ (.loop hy h hp) hb ⟨ha, hb', trivial⟩))))))
          · rename_i h0 h1 h2
            have h30 : y.2.1 = 30 := by
              have : ∀ y ∈ onesL, y.2.2 ≠ 0 → y.2.2 ≠ 1 → y.2.2 ≠ 2 → y.2.1 = 30 := by decide
              exact this y hy h0 h1 h2
            rw [h30]
            exact (hL 1 (i + 1) (by omega)).bind (fun a j ha => GoodR.want ((hL 1 (j + 1) (by omega)).bind (fun b m hb => GoodR.want ((hL 1 (m + 1) (by omega)).bind (fun c q hc => GoodR.want (goodZ .iff bytes_nil ⟨ha, hb, hc, trivial⟩))))))
end
/-- what a text is read as: a tree's nodes -/
theorem parse_tree {s : List Nat} (hs : Bytes s) (he : (parseN s).2.2 = 0) : ∃ t : Tr, t.Good ∧ t.size ≤ 256 ∧ t.deep ≤ 32 ∧ parseN s = (t.flat 0, 0, 0) := by
  by_cases hsc : (scanN s).2.2 = 0
  · have h4 := (scan_good hs hsc).2.2
    rcases scan_cases hs h4 with ⟨T, i', hT, e⟩ | ⟨T, r', i', n, hT, _, e⟩
    · have hok := scan_toks hs h4 hT
      rw [parseN_run e] at he ⊢
      cases hp : parseT T with
      | out =>
        exfalso
        have hF := parse_told T
        have hne : pL T (12 * T.length + 10) 1 0 ≠ .out := fun e => by rw [e] at hF; exact hF
        unfold parseT at hp
        cases hq : pL T (12 * T.length + 10) 1 0 with
        | out => exact hne hq
        | no j => rw [hq] at hp; cases hp
        | ok t j =>
          rw [hq] at hp
          simp only [PR.bind] at hp
          split at hp <;> cases hp
      | no j => rw [hp] at he; cases he
      | ok t j =>
        rw [hp] at he
        have hg : t.Good := by
          unfold parseT at hp
          have := (p_good hok (12 * T.length + 10)).1 1 0 (by omega)
          cases hq : pL T (12 * T.length + 10) 1 0 with
          | out => rw [hq] at hp; cases hp
          | no j => rw [hq] at hp; cases hp
          | ok u j =>
            rw [hq] at hp this
            simp only [PR.bind] at hp
            split at hp
            · cases hp
            · injection hp with hp _
              subst hp
              exact this
        simp only at he ⊢
        split at he
        · cases he
        · rename_i hsz
          refine ⟨t, hg, by omega, by omega, ?_⟩
          rw [if_neg hsz]
    · rw [e] at hsc; cases hsc
  · rw [parseN_scan hsc] at he
    exact absurd he hsc
theorem nds_ok {t : Tr} (hg : t.Good) (p : Nat) : ∀ d ∈ ndsT t p, NdOk d := by
  have key : ∀ (n : Nat) (t : Tr), t.size ≤ n → t.Good → ∀ p, ∀ d ∈ ndsT t p, NdOk d := by
    intro n
    induction n with
    | zero => intro t h; have := size_pos t; omega
    | succ n ih =>
      intro t h hg p d hd
      obtain ⟨k, s, v, ks⟩ := t
      obtain ⟨⟨hsh, hb, h1, h2⟩, hk⟩ := hg
      unfold ndsT at hd
      simp only [Tr.flat, List.map_cons] at hd
      rcases List.mem_cons.1 hd with rfl | hd
      · refine ⟨hb, ?_, h1, h2⟩
        have hlen : ks.length = ((placesL ks (p + 1)).map (fun n : Nat => (n : Int))).length := by rw [List.length_map, places_len]
        have := may_text (may_of hlen hsh)
        show s.length ≤ _
        simp only at this
        omega
      · have kl : ∀ (ts : List Tr), sizeL ts ≤ n → GoodL ts → ∀ q, ∀ d ∈ (flatL ts q).map EN.nd, NdOk d := by
          intro ts
          induction ts with
          | nil => intro _ _ q d hd; simp [flatL] at hd
          | cons t ts iht =>
            intro hn hg q d hd
            simp only [sizeL] at hn
            simp only [flatL, List.map_append, List.mem_append] at hd
            rcases hd with hd | hd
            · exact ih t (by omega) hg.1 q d hd
            · exact iht (by omega) hg.2 _ d hd
        simp only [Tr.size] at h
        exact kl ks (by omega) hk _ d hd
  exact key t.size t (Nat.le_refl _) hg p
/-- what is told: it is read again as it was -/
theorem print_back {l : List ND} (hok : ∀ d ∈ l, NdOk d) : ((printE l).2 ≠ 0 → (printE l).1 = []) ∧ ((printE l).2 = 0 → Bytes (printE l).1 ∧ (printE l).1.length ≤ 4096 ∧ ∃ es : List EN, parseN (printE l).1 = (es, 0, 0) ∧ es.map EN.nd = l ∧ rightE l = 0) := by
  unfold printE
  by_cases h0 : rightE l = 0
  · rw [if_neg (by omega)]
    split
    · exact ⟨fun _ => rfl, fun h => by cases h⟩
    · split
      · exact ⟨fun _ => rfl, fun h => by cases h⟩
      · rename_i h4
        refine ⟨fun h => absurd rfl h, fun _ => ?_⟩
        obtain ⟨t, g1, g2, g3, g4, g5⟩ := right_tree hok h0
        simp only
        rw [g5] at h4 ⊢
        exact ⟨tell_bytes t g1 0, by omega, t.flat 0, parse_back g1 (by omega) g3 g2, g4.symm, h0⟩
  · rw [if_pos h0]
    exact ⟨fun _ => rfl, fun h => absurd h h0⟩
theorem tell_pos {t : Tr} (hg : t.Good) (m : Nat) : tellT t m ≠ [] := by
  intro h
  obtain ⟨T, i', h1, h2⟩ := tell_cuts t hg 0 (by omega) [] bytes_nil (fun c hc => by cases hc) 0
  obtain ⟨k, s, n, ks⟩ := t
  obtain ⟨⟨hsh, hb, _, _⟩, _⟩ := hg
  simp only [tellT] at h
  split at h
  · simp at h
  · cases hsh with
    | int h0 =>
      have : showN n ≠ [] := by
        unfold showN
        split
        · simp
        · exact dec_ne _
      exact this h
    | text h0 => revert h; show quoteN s ≠ []; unfold quoteN; simp
    | name h0 =>
      unfold plainN at h0
      rw [Bool.and_eq_true] at h0
      obtain ⟨c, t, e, _⟩ := right_parts h0.1
      have h : s = [] := h
      rw [h] at e
      cases e
    | zero hy h0 =>
      rw [List.length_nil, (body_zero (s := []) (n := 0) (K := fun _ _ => []) hy h0).1] at h
      obtain ⟨c, t, e, _⟩ := right_parts (word_right (onesF _ hy).2.2.2.2.2.2.1)
      rw [h] at e
      cases e
    | post hx h0 h11 hp =>
      rw [List.length_singleton, (body_post (n := 0) (c := 1) (K := fun _ _ => []) hx h0).1] at h
      have := (postF _ hx h0).2.2.2.2.2.1
      simp only [List.append_eq_nil_iff] at h
      rw [h.2.1] at this
      exact this rfl
    | parent =>
      have h : kidG (tellTL [_]) 0 7 ++ ([94] ++ []) = [] := (body_post (s := []) (n := 0) (c := 1) (K := fun _ _ => []) parent_mem rfl).1.symm.trans h
      simp at h
    | not_ => rw [(body_not (s := []) (n := 0) (c := _) (K := fun _ _ => [])).1] at h; simp at h
    | one hy h0 =>
      rw [List.length_singleton, (body_one (s := []) (n := 0) (K := fun _ _ => []) hy h0).1] at h
      simp at h
    | @bin x a b hx h0 =>
      rw [show [a, b].length = 2 from rfl, (body_bin (s := []) (n := 0) (c := 2) (K := fun _ _ => []) hx h0).1] at h
      simp at h
    | iff => rw [(body_if (s := []) (n := 0) (c := _) (K := fun _ _ => [])).1] at h; simp at h
    | @loop y s a b hy h0 hp =>
      rw [show [a, b].length = 2 from rfl, (body_loop (n := 0) (c := 2) (K := fun _ _ => []) hy h0).1] at h
      simp at h
/-- what is read, told, and read again -/
theorem same_back {s : List Nat} (hs : Bytes s) (he : (parseN s).2.2 = 0) {es : List EN} (hes : (parseN s).1 = es) : rightE (es.map EN.nd) = 0 ∧ (∀ d ∈ es.map EN.nd, NdOk d) ∧ ((printE (es.map EN.nd)).2 ≠ 0 → printE (es.map EN.nd) = ([], 3)) ∧ ((printE (es.map EN.nd)).2 = 0 → (printE (es.map EN.nd)).1 ≠ [] ∧ Bytes (printE (es.map EN.nd)).1 ∧ (printE (es.map EN.nd)).1.length ≤ 4096 ∧ parseN (printE (es.map EN.nd)).1 = (es, 0, 0)) := by
  obtain ⟨t, g1, g2, g3, g4⟩ := parse_tree hs he
  rw [g4] at hes
  have hes : t.flat 0 = es := hes
  subst hes
  obtain ⟨r1, r2⟩ := right_of g1 g2 g3
  have hok := nds_ok g1 0
  have hr : rightE ((t.flat 0).map EN.nd) = 0 := r1
  have hk : tellN ((t.flat 0).map EN.nd) ((t.flat 0).map EN.nd).length 0 0 = tellT t 0 := r2 0
  refine ⟨hr, hok, ?_⟩
  unfold printE
  rw [if_neg (by omega), hk]
  split
  · exact ⟨fun _ => rfl, fun h => by cases h⟩
  · split
    · exact ⟨fun _ => rfl, fun h => by cases h⟩
    · refine ⟨fun h => absurd rfl h, fun _ => ⟨tell_pos g1 0, tell_bytes t g1 0, by simp only; omega, parse_back g1 (by omega) g2 g3⟩⟩
end Go.Proofs.YtlenenfgedgmhaaDoor
