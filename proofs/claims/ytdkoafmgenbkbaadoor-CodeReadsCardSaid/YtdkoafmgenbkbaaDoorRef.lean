/- What the reference's Quote and Unquote answer, of any text of at most 1048576 bytes: the same plain functions. -/
import Derived.Test.YtdkoafmgenbkbaaDoorMUnq
namespace Go.Proofs.YtdkoafmgenbkbaaDoor
set_option linter.unusedSimpArgs false
set_option linter.unusedVariables false
open Go.RowKit

set_option maxHeartbeats 2000000 in
theorem ref_quote (s : ByteArray) (hs : s.size ≤ 1048576) (w : World) : Calls Tryd.prog 47 #[.string s] w fun e w' => e = .returned (.string (txt (quoteN (bs s)))) ∧ Below w.heap.size w w' := by
  obtain ⟨j, hi, hz, hsz, hby⟩ := info_parts info_byte
  have I := Lib.hid (And.intro hi (And.intro hz (And.intro hsz hby)))
  clear hi hz hsz hby
  obtain ⟨n, hn⟩ : ∃ n, s.size = n := ⟨_, rfl⟩
  have Hn := Lib.hid hn
  rw [hn] at hs
  have hn' : (s.size : Int) = (n : Int) := by rw [hn]
  clear hn
  go_enter Tryd.func47, Tryd.ntmps47
  go_wp2_with fail
  go_loopw [3, 4] (fun o i wr => ∃ k : Nat, k ≤ n ∧ i = .int .i64 k ∧ Below w.heap.size w wr ∧ Hid (Own1 wr w.heap.size 5 1 IsByte o (34 :: ((bs s).take k).flatMap formN))) (fun _ i _ => n - (intOf i).toNat)
  case atStart =>
    exact ⟨0, Nat.zero_le _, rfl, (Below.refl _ w).alloc (Nat.le_refl _) _, own_bytes (xs := [.int .u8 34]) rfl (Nat.le_refl _) rfl (fun m hm => by simp at hm; omega) (by simp [maxLen]) 1 1 rfl rfl⟩
  case round =>
    obtain ⟨k, hk, rfl, hb, ho⟩ := hrel
    have b0 : (0 : Int) ≤ (k : Int) := Int.natCast_nonneg _
    by_cases hlt : k < n
    · have hlt' : k < s.size := by rw [Hn.out]; exact hlt
      obtain ⟨c, hc, c256⟩ := get_bs hlt'
      have i1 := fun W => index_txt W 9 Tryd.underlying9 hc .i64 _ rfl
      have hfl := flat_len ((bs s).take k)
      have htk := List.length_take_le k (bs s)
      have hlen : (34 :: ((bs s).take k).flatMap formN).length ≤ 1 + 4 * k := by rw [List.length_cons]; omega
      have Hlen := Lib.hid hlen
      have Htf := Lib.hid (take_flat hc)
      have hbz := hb.size
      have HF := Lib.hid (fun W => form_any c c256 W)
      have hfn := formN_bytes c c256
      have hfl2 := (form_len c).2
      have htx : bs (txt (formN c)) = formN c := bs_txt hfn
      have hts : (txt (formN c)).size = (formN c).length := txt_size _
      have Hx := Lib.hid (And.intro hfl2 (And.intro htx hts))
      clear hc hfl htk hlen hfn hfl2 htx hts
      go_wp2_with (first
        | (go_at_call 72; refine (HF.out _).mono ?_; rintro e w1 ⟨rfl, hb1⟩
           have ho1 : Hid (Own1 w1 w.heap.size 5 1 IsByte u3 (34 :: ((bs s).take k).flatMap formN)) := ho.out.below hb1 (Nat.le_refl _)
           have hbb1 : Below w.heap.size w w1 := hb.trans (hb1.mono hb.size)
           have hz1 := hbb1.size
           clear hb1 ho hb)
        | (at_builtin
           go_must (refine wpList_append_text rfl (.tmp 12) (.tmp 16) _ _ rfl w.heap.size 5 j Tryd.underlying69 Tryd.underlying9 I.out.1 I.out.2.1 I.out.2.2.1 I.out.2.2.2 u3 (34 :: ((bs s).take k).flatMap formN) rfl (by exact ho1.out) (txt (formN c)) rfl (by have := Hlen.out; have := Hx.out; unfold maxLen; omega) (by have := Hlen.out; have := Hx.out; omega) (by omega) ?_)
           intro xa xn xc w4 hown hb4
           rw [Hx.out.2.1] at hown
           have hbb : Below w.heap.size w w4 := hbb1.trans hb4))
      go_roundw
      case rel => exact ⟨k + 1, by omega, by go_num, hbb, by rw [Htf.out]; exact hown⟩
      case measure => simp [intOf]; omega
    · have hge : n ≤ k := by omega
      have hdec : decide (k < n) = false := by simp; omega
      clear hlt
      have hall : (bs s).take k = bs s := List.take_of_length_le (by rw [bs_len, Hn.out]; exact hge)
      rw [hall] at ho
      have hlen := flat_len (bs s)
      rw [bs_len, Hn.out] at hlen
      have Hlen := Lib.hid hlen
      have hbz := hb.size
      clear hall hlen
      go_wp2_with (at_builtin
                   go_must (refine wpList_append_bytes rfl (.tmp 18) (.tmp 19) _ rfl w.heap.size (wr.heap.size + 1) 5 j Tryd.underlying69 I.out.1 I.out.2.1 I.out.2.2.1 I.out.2.2.2 (l := 34 :: (bs s).flatMap formN) (m := [34]) u3 rfl (by exact ho.out.alloc _) (some ⟨wr.heap.size, 0, none⟩) 1 1 rfl (by exact bytes_row (xs := [.int .u8 34]) rfl rfl (fun m hm => by simp at hm; omega) (by simp [maxLen]) 1 1 rfl rfl) (by have := Hlen.out; rw [List.length_cons]; omega) (by rw [World.size_alloc]; omega) ?_)
                   intro xa xn xc w4 hown hb4
                   have hbb : Below w.heap.size w w4 := (hb.alloc (by omega) _).trans hb4
                   have hc := run_text_of_row 69 9 5 Tryd.underlying69 Tryd.underlying5 Tryd.underlying9 hown
                   clear hown hb4)
      go_ret
      exact ⟨rfl, hbb⟩

theorem common_take : ∀ (l m : List Nat) (j : Nat), l.length ≤ j → common l (m.take j) = common l m
  | [], m, j, _ => by cases m.take j <;> cases m <;> simp [common]
  | a :: l, [], j, _ => by simp
  | a :: l, b :: m, 0, h => by simp at h
  | a :: l, b :: m, j + 1, h => by
    simp only [List.take_succ_cons, common]
    rw [common_take l m j (by simp at h; omega)]
theorem common_self : ∀ (l t : List Nat), common l (l ++ t) = l.length
  | [], t => by cases t <;> simp [common]
  | a :: l, t => by simp [common, common_self l t]
/-- where none fits, at the end of all bytes -/
theorem none_fits {r : List Nat} (hr : Bytes r) (h34 : r.head? ≠ some 34) {fr : Nat} (h1 : ∀ c, c < 256 → common (formN c) (r.take 4) ≤ fr) (h2 : fr = 0 ∨ ∃ c, c < 256 ∧ common (formN c) (r.take 4) = fr) (h3 : ∀ c, c < 256 → common (formN c) (r.take 4) ≠ (formN c).length) : one r = (none, fr) := by
  have e : ∀ c, common (formN c) (r.take 4) = common (formN c) r := fun c => common_take _ _ _ (form_len c).2
  simp only [e] at h1 h2 h3
  rcases ho : one r with ⟨_ | ⟨c, n⟩, m⟩
  · obtain ⟨g1, c, g2, g3⟩ := one_none hr ho
    have : m = fr := by
      have a := h1 c g2
      rcases h2 with h2 | ⟨c', h2, h2'⟩
      · omega
      · have b := g1 c' h2; omega
    rw [this]
  · obtain ⟨g1, _, t, g2⟩ := one_some hr h34 ho
    exact absurd (by rw [g2]; exact common_self _ _) (h3 c g1)

theorem far_step {r : List Nat} {cN fr m : Nat} (h : (∀ c', c' < cN → common (formN c') r ≤ fr) ∧ (fr = 0 ∨ ∃ c', c' < cN ∧ common (formN c') r = fr) ∧ (∀ c', c' < cN → common (formN c') r ≠ (formN c').length)) (hm : common (formN cN) r = m) (hf : ¬ m = (formN cN).length) :
    (∀ c', c' < cN + 1 → common (formN c') r ≤ max fr m) ∧ (max fr m = 0 ∨ ∃ c', c' < cN + 1 ∧ common (formN c') r = max fr m) ∧ (∀ c', c' < cN + 1 → common (formN c') r ≠ (formN c').length) := by
  obtain ⟨h1, h2, h3⟩ := h
  refine ⟨fun c hc => ?_, ?_, fun c hc => ?_⟩
  · by_cases e : c = cN
    · subst e; omega
    · have := h1 c (by omega); omega
  · by_cases e : fr ≤ m
    · right
      exact ⟨cN, by omega, by omega⟩
    · rcases h2 with h2 | ⟨c, h2, h2'⟩
      · omega
      · right
        exact ⟨c, by omega, by omega⟩
  · by_cases e : c = cN
    · subst e; rw [hm]; exact hf
    · exact h3 c (by omega)

set_option maxHeartbeats 16000000 in
set_option maxRecDepth 100000 in
theorem ref_unquote (s : ByteArray) (a : Int) (ha : (Lit.int .i64 a).wf = true) (hs : s.size ≤ 1048576) (w : World) : Calls Tryd.prog 65 #[.string s, .int .i64 a] w fun e w' => e = .returned (unqV (unquoteN (bs s) a)) ∧ Below w.heap.size w w' := by
  obtain ⟨j, hi, hz, hsz, hby⟩ := info_parts info_byte
  have I := Lib.hid (And.intro hi (And.intro hz (And.intro hsz hby)))
  clear hi hz hsz hby
  obtain ⟨n, hn⟩ : ∃ n, s.size = n := ⟨_, rfl⟩
  have Hn := Lib.hid hn
  have hln : (bs s).length = n := by rw [bs_len, hn]
  have Hln := Lib.hid hln
  rw [hn] at hs
  have hn' : (s.size : Int) = (n : Int) := by rw [hn]
  clear hn
  by_cases h1 : a < 0
  · have hv : unquoteN (bs s) a = ([], 0, 2) := by simp [unquoteN, h1]
    have HV := Lib.hid hv
    clear hv hln
    go_enter Tryd.func65, Tryd.ntmps65
    go_wp2_with fail
    go_ret3
    exact ⟨by rw [HV.out]; rfl, Below.refl _ _⟩
  have d1 : decide (a < 0) = false := by simpa using h1
  by_cases h2 : (n : Int) < a
  · have hv : unquoteN (bs s) a = ([], 0, 2) := by simp [unquoteN, hln, h2]
    have HV := Lib.hid hv
    clear hv hln
    go_enter Tryd.func65, Tryd.ntmps65
    go_wp2_with fail
    go_ret3
    exact ⟨by rw [HV.out]; rfl, Below.refl _ _⟩
  have d2 : decide ((n : Int) < a) = false := by simpa using h2
  obtain ⟨k0, rfl⟩ : ∃ k : Nat, a = (k : Int) := ⟨a.toNat, by omega⟩
  have hgate : unquoteN (bs s) k0 = if (bs s)[k0]? ≠ some 34 then ([], (k0 : Int), 10) else ((unq (bs s) (n + 1) (k0 + 1) []).1, ((unq (bs s) (n + 1) (k0 + 1) []).2.1 : Int), (unq (bs s) (n + 1) (k0 + 1) []).2.2) := by
    unfold unquoteN
    rw [if_neg (by rw [hln]; omega), hln]
    rfl
  have d2' : decide (n < k0) = false := by simp; omega
  by_cases h3 : k0 = n
  · subst h3
    have hv : unquoteN (bs s) k0 = ([], (k0 : Int), 10) := by
      rw [hgate, if_pos (by rw [List.getElem?_eq_none (by omega)]; simp)]
    have HV := Lib.hid hv
    clear hv hln hgate
    go_enter Tryd.func65, Tryd.ntmps65
    go_wp2_with fail
    go_ret3
    exact ⟨by rw [HV.out]; rfl, Below.refl _ _⟩
  have d3 : ((k0 : Int) == (n : Int)) = false := by simp; omega
  have hk0 : k0 < s.size := by omega
  have b0 : (0 : Int) ≤ (k0 : Int) := Int.natCast_nonneg _
  obtain ⟨c0, hc0, c0256⟩ := get_bs hk0
  have i0 := fun W => index_txt W 9 Tryd.underlying9 hc0 .i64 _ rfl
  by_cases h4 : c0 = 34
  · subst h4
    rw [hc0, if_neg (by simp)] at hgate
    have HG := Lib.hid hgate
    generalize hRR : unq (bs s) (n + 1) (k0 + 1) [] = R at HG
    have HR := Lib.hid hRR
    have I0 := Lib.hid i0
    clear hgate hc0 hRR hln i0
    have i0 := I0.out
    go_enter Tryd.func65, Tryd.ntmps65
    go_wp2_with fail
    go_loopw [7, 8] (fun o i wr => ∃ (k f : Nat) (out : List Nat), k ≤ n ∧ n < f + k ∧ i = .int .i64 k ∧ Hid (unq (bs s) f k out = R) ∧ Below w.heap.size w wr ∧ Hid (Own1 wr w.heap.size 5 1 IsByte o out ∧ out.length ≤ k)) (fun _ i _ => n - (intOf i).toNat)
    case atStart => exact ⟨k0 + 1, n + 1, [], by omega, by omega, by go_num, HR.out, Below.refl _ _, ⟨[], World.ownsRow_nil _ _ _ _, FlatR.nil_⟩, by simp⟩
    case round =>
      obtain ⟨k, f, out, hk, hf, rfl, hu, hb, ho⟩ := hrel
      clear i0 I0
      have b1 : (0 : Int) ≤ (k : Int) := Int.natCast_nonneg _
      by_cases hq : k < n ∧ (bs s)[k]? = some 34
      · obtain ⟨hlt, hc⟩ := hq
        have i1 := fun W => index_txt W 9 Tryd.underlying9 hc .i64 _ rfl
        have hv := unq_end hu.out (by omega) hc
        have HV := Lib.hid hv
        have hcv := run_text_of_row 69 9 5 Tryd.underlying69 Tryd.underlying5 Tryd.underlying9 ho.out.1
        clear hv hc
        go_wp2_with fail
        (try simp only [Exit.inBlock, Exit.then, Exit.noGoto_ret])
        go_ret3
        exact ⟨by rw [HG.out, HV.out]; rfl, hb⟩
      · have hcase : (∃ c, k < n ∧ n ≤ k + 4 ∧ (bs s)[k]? = some c ∧ c ≠ 34) ∨ (∃ c, k < n ∧ k + 4 < n ∧ (bs s)[k]? = some c ∧ c ≠ 34) ∨ k = n := by
          by_cases hlt : k < n
          · obtain ⟨c, hc, c256⟩ := get_bs (s := s) (k := k) (by omega)
            have hc34 : c ≠ 34 := fun e => hq ⟨hlt, by rw [hc, e]⟩
            by_cases h : n ≤ k + 4
            · exact Or.inl ⟨c, hlt, h, hc, hc34⟩
            · exact Or.inr (Or.inl ⟨c, hlt, by omega, hc, hc34⟩)
          · right; right; omega
        have h34 : (bs s)[k]? ≠ some 34 := by
          intro e
          refine hq ⟨?_, e⟩
          have := (List.getElem?_eq_some_iff.1 e).1
          rw [Hln.out] at this
          exact this
        clear hq
        have hd34 : ((bs s).drop k).head? ≠ some 34 := by rw [List.head?_drop]; exact h34
        have H34 := Lib.hid (And.intro h34 hd34)
        have hr1 : n ≤ k + 4 → bs (s.extract k n) = ((bs s).drop k).take 4 := by
          intro h
          rw [bs_extract, List.take_drop, List.take_of_length_le (by rw [Hln.out]; exact Nat.le_refl _), List.take_of_length_le (by rw [Hln.out]; omega)]
        have hr2 : bs (s.extract k (k + 4)) = ((bs s).drop k).take 4 := by
          rw [bs_extract, List.take_drop]
        have hk4 : ((k : Int) + 4).toNat = k + 4 := by omega
        have ht4 : (((bs s).drop k).take 4).length ≤ 4 := List.length_take_le _ _
        generalize hrr : ((bs s).drop k).take 4 = r at *
        have Hrr := Lib.hid hrr
        have Hol := Lib.hid ho.out.2
        have Ho := Lib.hid ho.out.1
        clear h34 hd34 hrr ho
        have hgo : ∃ ρ : ByteArray, bs ρ = r ∧ ((∃ c, k < n ∧ n ≤ k + 4 ∧ (bs s)[k]? = some c ∧ c ≠ 34 ∧ s.extract k n = ρ) ∨ (∃ c, k < n ∧ k + 4 < n ∧ (bs s)[k]? = some c ∧ c ≠ 34 ∧ s.extract k (k + 4) = ρ) ∨ (k = n ∧ s.extract k n = ρ)) := by
          rcases hcase with ⟨c, g1, g2, g3, g4⟩ | ⟨c, g1, g2, g3, g4⟩ | g
          · exact ⟨_, hr1 g2, Or.inl ⟨c, g1, g2, g3, g4, rfl⟩⟩
          · exact ⟨_, hr2, Or.inr (Or.inl ⟨c, g1, g2, g3, g4, rfl⟩)⟩
          · exact ⟨_, hr1 (by omega), Or.inr (Or.inr ⟨g, rfl⟩)⟩
        clear hcase hr1 hr2
        obtain ⟨ρ, hρ, hgo⟩ := hgo
        have Hρ := Lib.hid hρ
        have hρs : ρ.size ≤ maxLen := by rw [← bs_len, hρ]; unfold maxLen; omega
        have Hρs := Lib.hid hρs
        clear hρ hρs ht4
        rcases hgo with ⟨c, g1, g2, g3, g4, g5⟩ | ⟨c, g1, g2, g3, g4, g5⟩ | ⟨g, g5⟩
        · have i1 := fun W => index_txt W 9 Tryd.underlying9 g3 .i64 _ rfl
          have e1 : ((c : Int) == 34) = false := by simp; omega
          have m1 : (n : Int) ≤ (k : Int) + 4 := by omega
          have gd1 : decide (k < n) = true := by simp; omega
          clear g3 g4
          go_wp2_with fail
          go_hide hQ
          go_loopw [7, 8, 9, 10, 12] (fun o i far tk cv wr => ∃ cN fr : Nat, cN ≤ 256 ∧ cv = .int .i64 cN ∧ far = .int .i64 fr ∧ fr ≤ 4 ∧ Below w.heap.size w wr ∧ ((tk = .bool false ∧ i = .int .i64 k ∧ Hid ((∀ c', c' < cN → common (formN c') r ≤ fr) ∧ (fr = 0 ∨ ∃ c', c' < cN ∧ common (formN c') r = fr) ∧ (∀ c', c' < cN → common (formN c') r ≠ (formN c').length)) ∧ Hid (Own1 wr w.heap.size 5 1 IsByte o out)) ∨ (tk = .bool true ∧ ∃ c0 : Nat, c0 < 256 ∧ i = .int .i64 ((k + (formN c0).length : Nat) : Int) ∧ Hid (∃ t, r = formN c0 ++ t) ∧ Hid (Own1 wr w.heap.size 5 1 IsByte o (out ++ [c0]))))) (fun _ _ _ _ cv _ => 256 - (intOf cv).toNat)
          case atStart => exact ⟨0, 0, by omega, rfl, rfl, by omega, hb, Or.inl ⟨rfl, rfl, ⟨fun _ h => absurd h (by omega), Or.inl rfl, fun _ h => absurd h (by omega)⟩, Ho.out⟩⟩
          case round =>
            clear Ho hb
            obtain ⟨cN, fr, hcN, rfl, rfl, hfr, hb, hst⟩ := hrel
            have hbz := hb.size
            rcases hst with ⟨rfl, rfl, hinv, ho⟩ | ⟨rfl, cc, cc256, rfl, hpre, ho⟩
            · by_cases hlt2 : cN < 256
              · have HF := Lib.hid (fun W => form_any cN hlt2 W)
                have hL := form_len cN
                have hfb := bs_txt (formN_bytes cN hlt2)
                have hfs : (txt (formN cN)).size = (formN cN).length := txt_size _
                have hcl := common_le_left (formN cN) r
                have hcf := common_full (formN cN) r
                have Hcf := Lib.hid hcf
                obtain ⟨τ, hτ⟩ : ∃ τ, txt (formN cN) = τ := ⟨_, rfl⟩
                rw [hτ] at HF hfb hfs
                obtain ⟨L, hLL⟩ : ∃ L, (formN cN).length = L := ⟨_, rfl⟩
                rw [hLL] at hL hfs hcl
                have hτs : τ.size ≤ maxLen := by unfold maxLen; omega
                have HC : Hid (∀ W, Calls Tryd.prog 83 #[.string τ, .string ρ] W fun e w' => e = .returned (.int .i64 (common (formN cN) r : Int)) ∧ Quiet W w') := Lib.hid (fun W => by have := common_any τ ρ hτs Hρs.out W; rw [hfb, Hρ.out] at this; exact this)
                obtain ⟨m, hm⟩ : ∃ m, common (formN cN) r = m := ⟨_, rfl⟩
                rw [hm] at HC hcl
                have HL := Lib.hid hLL
                have HM := Lib.hid hm
                clear hcf hfb hτ hτs hLL hm
                have hwrap : (cN : Int) % 256 = (cN : Int) := by omega
                have hmx : fr ≤ m ∨ (m < fr ∧ ¬ fr ≤ m) := by omega
                by_cases hfull : m = L
                · have hf1 : ((m : Int) == (L : Int)) = true := by simp; omega
                  rcases hmx with hmx | ⟨hmx, hmx'⟩
                  all_goals
                    go_wp2_with (first
                      | (go_at_call 72; refine (HF.out _).mono ?_; rintro e w1 ⟨rfl, hb1⟩
                         have ho1 : Hid (Own1 w1 w.heap.size 5 1 IsByte u7 out) := ho.out.below hb1 (Nat.le_refl _)
                         have hbb1 : Below w.heap.size w w1 := hb.trans (hb1.mono hb.size)
                         clear hb1 ho hb)
                      | (go_at_call 83; refine (HC.out _).mono ?_; rintro e w2 ⟨rfl, qq⟩
                         have ho2 : Hid (Own1 w2 w.heap.size 5 1 IsByte u7 out) := by
                           obtain ⟨q, rfl⟩ := qq
                           exact ho1.out.drewN q
                         have hb2 : Below w.heap.size w w2 := by
                           obtain ⟨q, rfl⟩ := qq
                           exact below_drewN hbb1 q
                         have hz2 := hb2.size
                         clear qq ho1 hbb1)
                      | (at_builtin
                         go_must (refine wpList_append_bytes rfl (.tmp 79) (.tmp 82) _ rfl w.heap.size (w2.heap.size + 1) 5 j Tryd.underlying69 I.out.1 I.out.2.1 I.out.2.2.1 I.out.2.2.2 (l := out) (m := [cN]) u7 rfl (by exact ho2.out.alloc _) (some ⟨w2.heap.size, 0, none⟩) 1 1 rfl (by exact bytes_row (xs := [.int .u8 (cN : Int)]) rfl rfl (fun m hm => by simp at hm; omega) (by simp [maxLen]) 1 1 rfl rfl) (by have := Hol.out; omega) (by rw [World.size_alloc]; omega) ?_)
                         intro xa xn xc w4 hown hb4
                         have hbb : Below w.heap.size w w4 := (hb2.alloc (by omega) _).trans hb4))
                    go_roundw
                    case rel => exact ⟨cN + 1, max fr m, by omega, by go_num, by first | (congr 1; omega) | (simp; omega), by omega, hbb, Or.inr ⟨rfl, cN, hlt2, by rw [HL.out, ← hfull]; go_num, Hcf.out (by rw [HM.out, HL.out, hfull]), hown⟩⟩
                    case measure => simp [intOf]; omega
                · have hf1 : ((m : Int) == (L : Int)) = false := by simp; omega
                  rcases hmx with hmx | ⟨hmx, hmx'⟩
                  all_goals
                    go_wp2_with (first
                      | (go_at_call 72; refine (HF.out _).mono ?_; rintro e w1 ⟨rfl, hb1⟩
                         have ho1 : Hid (Own1 w1 w.heap.size 5 1 IsByte u7 out) := ho.out.below hb1 (Nat.le_refl _)
                         have hbb1 : Below w.heap.size w w1 := hb.trans (hb1.mono hb.size)
                         clear hb1 ho hb)
                      | (go_at_call 83; refine (HC.out _).mono ?_; rintro e w2 ⟨rfl, qq⟩
                         have ho2 : Hid (Own1 w2 w.heap.size 5 1 IsByte u7 out) := by
                           obtain ⟨q, rfl⟩ := qq
                           exact ho1.out.drewN q
                         have hb2 : Below w.heap.size w w2 := by
                           obtain ⟨q, rfl⟩ := qq
                           exact below_drewN hbb1 q
                         clear qq ho1 hbb1))
                    go_roundw
                    case rel => exact ⟨cN + 1, max fr m, by omega, by go_num, by first | (congr 1; omega) | (simp; omega), by omega, hb2, Or.inl ⟨rfl, rfl, far_step hinv.out HM.out (by rw [HL.out]; exact hfull), ho2.out⟩⟩
                    case measure => simp [intOf]; omega
              · have hcN' : cN = 256 := by omega
                subst hcN'
                have hone := none_fits (r := (bs s).drop k) (fr := fr) (fun m hm => bs_bytes s m (List.mem_of_mem_drop hm)) H34.out.2 (by rw [Hrr.out]; exact hinv.out.1) (by rw [Hrr.out]; exact hinv.out.2.1) (by rw [Hrr.out]; exact hinv.out.2.2)
                have hv := unq_stop hu.out (by omega) H34.out.1 hone
                have HV := Lib.hid hv
                clear hv hone
                go_wp2_with fail
                subst hQ
                go_wp2_with fail
                (try simp only [Exit.inBlock, Exit.then])
                go_ret3
                exact ⟨by rw [HG.out, HV.out]; simp [unqV, txt] <;> omega, hb⟩
            · obtain ⟨L, hLL⟩ : ∃ L, (formN cc).length = L := ⟨_, rfl⟩
              have hL := form_len cc
              have hstep : unq (bs s) (f - 1) (k + L) (out ++ [cc]) = R := by
                obtain ⟨t, ht⟩ := hpre.out
                have hd : (bs s).drop k = formN cc ++ (t ++ ((bs s).drop k).drop 4) := by
                  rw [← List.append_assoc, ← ht, ← Hrr.out, List.take_append_drop]
                have h1 := one_of_form cc256 (t ++ ((bs s).drop k).drop 4)
                rw [← hd, hLL] at h1
                exact unq_step hu.out (by omega) H34.out.1 h1
              have hkn : k + L ≤ n := by
                obtain ⟨t, ht⟩ := hpre.out
                have := congrArg List.length ht
                rw [← Hrr.out, List.length_take, List.length_drop, Hln.out, List.length_append, hLL] at this
                omega
              rw [hLL] at hL
              have HS := Lib.hid hstep
              have hLL' : (k + (formN cc).length : Nat) = k + L := by rw [hLL]
              have HLL := Lib.hid hLL'
              have hout : (out ++ [cc]).length ≤ k + L := by have := Hol.out; simp; omega
              have Hout := Lib.hid hout
              clear hstep hout hLL'
              have hc2 : cN < 256 ∨ ¬ cN < 256 := by omega
              rcases hc2 with hc2 | hc2
              all_goals
                go_wp2_with fail
                subst hQ
                go_wp2_with fail
                go_roundw
                case rel => exact ⟨k + L, f - 1, out ++ [cc], hkn, by omega, by go_num, HS.out, hb, ho.out, Hout.out⟩
                case measure => simp [intOf]; omega
        · have i1 := fun W => index_txt W 9 Tryd.underlying9 g3 .i64 _ rfl
          have e1 : ((c : Int) == 34) = false := by simp; omega
          have m1 : ¬ (n : Int) ≤ (k : Int) + 4 := by omega
          have m2 : (k : Int) + 4 ≤ (n : Int) := by omega
          have gd1 : decide (k < n) = true := by simp; omega
          clear g3 g4
          go_wp2_with fail
          go_hide hQ
          go_loopw [7, 8, 9, 10, 12] (fun o i far tk cv wr => ∃ cN fr : Nat, cN ≤ 256 ∧ cv = .int .i64 cN ∧ far = .int .i64 fr ∧ fr ≤ 4 ∧ Below w.heap.size w wr ∧ ((tk = .bool false ∧ i = .int .i64 k ∧ Hid ((∀ c', c' < cN → common (formN c') r ≤ fr) ∧ (fr = 0 ∨ ∃ c', c' < cN ∧ common (formN c') r = fr) ∧ (∀ c', c' < cN → common (formN c') r ≠ (formN c').length)) ∧ Hid (Own1 wr w.heap.size 5 1 IsByte o out)) ∨ (tk = .bool true ∧ ∃ c0 : Nat, c0 < 256 ∧ i = .int .i64 ((k + (formN c0).length : Nat) : Int) ∧ Hid (∃ t, r = formN c0 ++ t) ∧ Hid (Own1 wr w.heap.size 5 1 IsByte o (out ++ [c0]))))) (fun _ _ _ _ cv _ => 256 - (intOf cv).toNat)
          case atStart => exact ⟨0, 0, by omega, rfl, rfl, by omega, hb, Or.inl ⟨rfl, rfl, ⟨fun _ h => absurd h (by omega), Or.inl rfl, fun _ h => absurd h (by omega)⟩, Ho.out⟩⟩
          case round =>
            clear Ho hb
            obtain ⟨cN, fr, hcN, rfl, rfl, hfr, hb, hst⟩ := hrel
            have hbz := hb.size
            rcases hst with ⟨rfl, rfl, hinv, ho⟩ | ⟨rfl, cc, cc256, rfl, hpre, ho⟩
            · by_cases hlt2 : cN < 256
              · have HF := Lib.hid (fun W => form_any cN hlt2 W)
                have hL := form_len cN
                have hfb := bs_txt (formN_bytes cN hlt2)
                have hfs : (txt (formN cN)).size = (formN cN).length := txt_size _
                have hcl := common_le_left (formN cN) r
                have hcf := common_full (formN cN) r
                have Hcf := Lib.hid hcf
                obtain ⟨τ, hτ⟩ : ∃ τ, txt (formN cN) = τ := ⟨_, rfl⟩
                rw [hτ] at HF hfb hfs
                obtain ⟨L, hLL⟩ : ∃ L, (formN cN).length = L := ⟨_, rfl⟩
                rw [hLL] at hL hfs hcl
                have hτs : τ.size ≤ maxLen := by unfold maxLen; omega
                have HC : Hid (∀ W, Calls Tryd.prog 83 #[.string τ, .string ρ] W fun e w' => e = .returned (.int .i64 (common (formN cN) r : Int)) ∧ Quiet W w') := Lib.hid (fun W => by have := common_any τ ρ hτs Hρs.out W; rw [hfb, Hρ.out] at this; exact this)
                obtain ⟨m, hm⟩ : ∃ m, common (formN cN) r = m := ⟨_, rfl⟩
                rw [hm] at HC hcl
                have HL := Lib.hid hLL
                have HM := Lib.hid hm
                clear hcf hfb hτ hτs hLL hm
                have hwrap : (cN : Int) % 256 = (cN : Int) := by omega
                have hmx : fr ≤ m ∨ (m < fr ∧ ¬ fr ≤ m) := by omega
                by_cases hfull : m = L
                · have hf1 : ((m : Int) == (L : Int)) = true := by simp; omega
                  rcases hmx with hmx | ⟨hmx, hmx'⟩
                  all_goals
                    go_wp2_with (first
                      | (go_at_call 72; refine (HF.out _).mono ?_; rintro e w1 ⟨rfl, hb1⟩
                         have ho1 : Hid (Own1 w1 w.heap.size 5 1 IsByte u7 out) := ho.out.below hb1 (Nat.le_refl _)
                         have hbb1 : Below w.heap.size w w1 := hb.trans (hb1.mono hb.size)
                         clear hb1 ho hb)
                      | (go_at_call 83; refine (HC.out _).mono ?_; rintro e w2 ⟨rfl, qq⟩
                         have ho2 : Hid (Own1 w2 w.heap.size 5 1 IsByte u7 out) := by
                           obtain ⟨q, rfl⟩ := qq
                           exact ho1.out.drewN q
                         have hb2 : Below w.heap.size w w2 := by
                           obtain ⟨q, rfl⟩ := qq
                           exact below_drewN hbb1 q
                         have hz2 := hb2.size
                         clear qq ho1 hbb1)
                      | (at_builtin
                         go_must (refine wpList_append_bytes rfl (.tmp 79) (.tmp 82) _ rfl w.heap.size (w2.heap.size + 1) 5 j Tryd.underlying69 I.out.1 I.out.2.1 I.out.2.2.1 I.out.2.2.2 (l := out) (m := [cN]) u7 rfl (by exact ho2.out.alloc _) (some ⟨w2.heap.size, 0, none⟩) 1 1 rfl (by exact bytes_row (xs := [.int .u8 (cN : Int)]) rfl rfl (fun m hm => by simp at hm; omega) (by simp [maxLen]) 1 1 rfl rfl) (by have := Hol.out; omega) (by rw [World.size_alloc]; omega) ?_)
                         intro xa xn xc w4 hown hb4
                         have hbb : Below w.heap.size w w4 := (hb2.alloc (by omega) _).trans hb4))
                    go_roundw
                    case rel => exact ⟨cN + 1, max fr m, by omega, by go_num, by first | (congr 1; omega) | (simp; omega), by omega, hbb, Or.inr ⟨rfl, cN, hlt2, by rw [HL.out, ← hfull]; go_num, Hcf.out (by rw [HM.out, HL.out, hfull]), hown⟩⟩
                    case measure => simp [intOf]; omega
                · have hf1 : ((m : Int) == (L : Int)) = false := by simp; omega
                  rcases hmx with hmx | ⟨hmx, hmx'⟩
                  all_goals
                    go_wp2_with (first
                      | (go_at_call 72; refine (HF.out _).mono ?_; rintro e w1 ⟨rfl, hb1⟩
                         have ho1 : Hid (Own1 w1 w.heap.size 5 1 IsByte u7 out) := ho.out.below hb1 (Nat.le_refl _)
                         have hbb1 : Below w.heap.size w w1 := hb.trans (hb1.mono hb.size)
                         clear hb1 ho hb)
                      | (go_at_call 83; refine (HC.out _).mono ?_; rintro e w2 ⟨rfl, qq⟩
                         have ho2 : Hid (Own1 w2 w.heap.size 5 1 IsByte u7 out) := by
                           obtain ⟨q, rfl⟩ := qq
                           exact ho1.out.drewN q
                         have hb2 : Below w.heap.size w w2 := by
                           obtain ⟨q, rfl⟩ := qq
                           exact below_drewN hbb1 q
                         clear qq ho1 hbb1))
                    go_roundw
                    case rel => exact ⟨cN + 1, max fr m, by omega, by go_num, by first | (congr 1; omega) | (simp; omega), by omega, hb2, Or.inl ⟨rfl, rfl, far_step hinv.out HM.out (by rw [HL.out]; exact hfull), ho2.out⟩⟩
                    case measure => simp [intOf]; omega
              · have hcN' : cN = 256 := by omega
                subst hcN'
                have hone := none_fits (r := (bs s).drop k) (fr := fr) (fun m hm => bs_bytes s m (List.mem_of_mem_drop hm)) H34.out.2 (by rw [Hrr.out]; exact hinv.out.1) (by rw [Hrr.out]; exact hinv.out.2.1) (by rw [Hrr.out]; exact hinv.out.2.2)
                have hv := unq_stop hu.out (by omega) H34.out.1 hone
                have HV := Lib.hid hv
                clear hv hone
                go_wp2_with fail
                subst hQ
                go_wp2_with fail
                (try simp only [Exit.inBlock, Exit.then])
                go_ret3
                exact ⟨by rw [HG.out, HV.out]; simp [unqV, txt] <;> omega, hb⟩
            · obtain ⟨L, hLL⟩ : ∃ L, (formN cc).length = L := ⟨_, rfl⟩
              have hL := form_len cc
              have hstep : unq (bs s) (f - 1) (k + L) (out ++ [cc]) = R := by
                obtain ⟨t, ht⟩ := hpre.out
                have hd : (bs s).drop k = formN cc ++ (t ++ ((bs s).drop k).drop 4) := by
                  rw [← List.append_assoc, ← ht, ← Hrr.out, List.take_append_drop]
                have h1 := one_of_form cc256 (t ++ ((bs s).drop k).drop 4)
                rw [← hd, hLL] at h1
                exact unq_step hu.out (by omega) H34.out.1 h1
              have hkn : k + L ≤ n := by
                obtain ⟨t, ht⟩ := hpre.out
                have := congrArg List.length ht
                rw [← Hrr.out, List.length_take, List.length_drop, Hln.out, List.length_append, hLL] at this
                omega
              rw [hLL] at hL
              have HS := Lib.hid hstep
              have hLL' : (k + (formN cc).length : Nat) = k + L := by rw [hLL]
              have HLL := Lib.hid hLL'
              have hout : (out ++ [cc]).length ≤ k + L := by have := Hol.out; simp; omega
              have Hout := Lib.hid hout
              clear hstep hout hLL'
              have hc2 : cN < 256 ∨ ¬ cN < 256 := by omega
              rcases hc2 with hc2 | hc2
              all_goals
                go_wp2_with fail
                subst hQ
                go_wp2_with fail
                go_roundw
                case rel => exact ⟨k + L, f - 1, out ++ [cc], hkn, by omega, by go_num, HS.out, hb, ho.out, Hout.out⟩
                case measure => simp [intOf]; omega
        · have gd1 : decide (k < n) = false := by simp; omega
          have gd2 : decide ((k : Int) < (n : Int)) = false := by simp; omega
          have m1 : (n : Int) ≤ (k : Int) + 4 := by omega
          have Gkn := Lib.hid g
          clear g
          go_wp2_with fail
          go_hide hQ
          go_loopw [7, 8, 9, 10, 12] (fun o i far tk cv wr => ∃ cN fr : Nat, cN ≤ 256 ∧ cv = .int .i64 cN ∧ far = .int .i64 fr ∧ fr ≤ 4 ∧ Below w.heap.size w wr ∧ ((tk = .bool false ∧ i = .int .i64 k ∧ Hid ((∀ c', c' < cN → common (formN c') r ≤ fr) ∧ (fr = 0 ∨ ∃ c', c' < cN ∧ common (formN c') r = fr) ∧ (∀ c', c' < cN → common (formN c') r ≠ (formN c').length)) ∧ Hid (Own1 wr w.heap.size 5 1 IsByte o out)) ∨ (tk = .bool true ∧ ∃ c0 : Nat, c0 < 256 ∧ i = .int .i64 ((k + (formN c0).length : Nat) : Int) ∧ Hid (∃ t, r = formN c0 ++ t) ∧ Hid (Own1 wr w.heap.size 5 1 IsByte o (out ++ [c0]))))) (fun _ _ _ _ cv _ => 256 - (intOf cv).toNat)
          case atStart => exact ⟨0, 0, by omega, rfl, rfl, by omega, hb, Or.inl ⟨rfl, rfl, ⟨fun _ h => absurd h (by omega), Or.inl rfl, fun _ h => absurd h (by omega)⟩, Ho.out⟩⟩
          case round =>
            clear Ho hb
            obtain ⟨cN, fr, hcN, rfl, rfl, hfr, hb, hst⟩ := hrel
            have hbz := hb.size
            rcases hst with ⟨rfl, rfl, hinv, ho⟩ | ⟨rfl, cc, cc256, rfl, hpre, ho⟩
            · by_cases hlt2 : cN < 256
              · have HF := Lib.hid (fun W => form_any cN hlt2 W)
                have hL := form_len cN
                have hfb := bs_txt (formN_bytes cN hlt2)
                have hfs : (txt (formN cN)).size = (formN cN).length := txt_size _
                have hcl := common_le_left (formN cN) r
                have hcf := common_full (formN cN) r
                have Hcf := Lib.hid hcf
                obtain ⟨τ, hτ⟩ : ∃ τ, txt (formN cN) = τ := ⟨_, rfl⟩
                rw [hτ] at HF hfb hfs
                obtain ⟨L, hLL⟩ : ∃ L, (formN cN).length = L := ⟨_, rfl⟩
                rw [hLL] at hL hfs hcl
                have hτs : τ.size ≤ maxLen := by unfold maxLen; omega
                have HC : Hid (∀ W, Calls Tryd.prog 83 #[.string τ, .string ρ] W fun e w' => e = .returned (.int .i64 (common (formN cN) r : Int)) ∧ Quiet W w') := Lib.hid (fun W => by have := common_any τ ρ hτs Hρs.out W; rw [hfb, Hρ.out] at this; exact this)
                obtain ⟨m, hm⟩ : ∃ m, common (formN cN) r = m := ⟨_, rfl⟩
                rw [hm] at HC hcl
                have HL := Lib.hid hLL
                have HM := Lib.hid hm
                clear hcf hfb hτ hτs hLL hm
                have hwrap : (cN : Int) % 256 = (cN : Int) := by omega
                have hmx : fr ≤ m ∨ (m < fr ∧ ¬ fr ≤ m) := by omega
                by_cases hfull : m = L
                · have hf1 : ((m : Int) == (L : Int)) = true := by simp; omega
                  rcases hmx with hmx | ⟨hmx, hmx'⟩
                  all_goals
                    go_wp2_with (first
                      | (go_at_call 72; refine (HF.out _).mono ?_; rintro e w1 ⟨rfl, hb1⟩
                         have ho1 : Hid (Own1 w1 w.heap.size 5 1 IsByte u7 out) := ho.out.below hb1 (Nat.le_refl _)
                         have hbb1 : Below w.heap.size w w1 := hb.trans (hb1.mono hb.size)
                         clear hb1 ho hb)
                      | (go_at_call 83; refine (HC.out _).mono ?_; rintro e w2 ⟨rfl, qq⟩
                         have ho2 : Hid (Own1 w2 w.heap.size 5 1 IsByte u7 out) := by
                           obtain ⟨q, rfl⟩ := qq
                           exact ho1.out.drewN q
                         have hb2 : Below w.heap.size w w2 := by
                           obtain ⟨q, rfl⟩ := qq
                           exact below_drewN hbb1 q
                         have hz2 := hb2.size
                         clear qq ho1 hbb1)
                      | (at_builtin
                         go_must (refine wpList_append_bytes rfl (.tmp 79) (.tmp 82) _ rfl w.heap.size (w2.heap.size + 1) 5 j Tryd.underlying69 I.out.1 I.out.2.1 I.out.2.2.1 I.out.2.2.2 (l := out) (m := [cN]) u7 rfl (by exact ho2.out.alloc _) (some ⟨w2.heap.size, 0, none⟩) 1 1 rfl (by exact bytes_row (xs := [.int .u8 (cN : Int)]) rfl rfl (fun m hm => by simp at hm; omega) (by simp [maxLen]) 1 1 rfl rfl) (by have := Hol.out; omega) (by rw [World.size_alloc]; omega) ?_)
                         intro xa xn xc w4 hown hb4
                         have hbb : Below w.heap.size w w4 := (hb2.alloc (by omega) _).trans hb4))
                    go_roundw
                    case rel => exact ⟨cN + 1, max fr m, by omega, by go_num, by first | (congr 1; omega) | (simp; omega), by omega, hbb, Or.inr ⟨rfl, cN, hlt2, by rw [HL.out, ← hfull]; go_num, Hcf.out (by rw [HM.out, HL.out, hfull]), hown⟩⟩
                    case measure => simp [intOf]; omega
                · have hf1 : ((m : Int) == (L : Int)) = false := by simp; omega
                  rcases hmx with hmx | ⟨hmx, hmx'⟩
                  all_goals
                    go_wp2_with (first
                      | (go_at_call 72; refine (HF.out _).mono ?_; rintro e w1 ⟨rfl, hb1⟩
                         have ho1 : Hid (Own1 w1 w.heap.size 5 1 IsByte u7 out) := ho.out.below hb1 (Nat.le_refl _)
                         have hbb1 : Below w.heap.size w w1 := hb.trans (hb1.mono hb.size)
                         clear hb1 ho hb)
                      | (go_at_call 83; refine (HC.out _).mono ?_; rintro e w2 ⟨rfl, qq⟩
                         have ho2 : Hid (Own1 w2 w.heap.size 5 1 IsByte u7 out) := by
                           obtain ⟨q, rfl⟩ := qq
                           exact ho1.out.drewN q
                         have hb2 : Below w.heap.size w w2 := by
                           obtain ⟨q, rfl⟩ := qq
                           exact below_drewN hbb1 q
                         clear qq ho1 hbb1))
                    go_roundw
                    case rel => exact ⟨cN + 1, max fr m, by omega, by go_num, by first | (congr 1; omega) | (simp; omega), by omega, hb2, Or.inl ⟨rfl, rfl, far_step hinv.out HM.out (by rw [HL.out]; exact hfull), ho2.out⟩⟩
                    case measure => simp [intOf]; omega
              · have hcN' : cN = 256 := by omega
                subst hcN'
                have hone := none_fits (r := (bs s).drop k) (fr := fr) (fun m hm => bs_bytes s m (List.mem_of_mem_drop hm)) H34.out.2 (by rw [Hrr.out]; exact hinv.out.1) (by rw [Hrr.out]; exact hinv.out.2.1) (by rw [Hrr.out]; exact hinv.out.2.2)
                have hv := unq_stop hu.out (by omega) H34.out.1 hone
                have HV := Lib.hid hv
                clear hv hone
                go_wp2_with fail
                subst hQ
                go_wp2_with fail
                (try simp only [Exit.inBlock, Exit.then])
                go_ret3
                exact ⟨by rw [HG.out, HV.out]; simp [unqV, txt] <;> omega, hb⟩
            · obtain ⟨L, hLL⟩ : ∃ L, (formN cc).length = L := ⟨_, rfl⟩
              have hL := form_len cc
              have hstep : unq (bs s) (f - 1) (k + L) (out ++ [cc]) = R := by
                obtain ⟨t, ht⟩ := hpre.out
                have hd : (bs s).drop k = formN cc ++ (t ++ ((bs s).drop k).drop 4) := by
                  rw [← List.append_assoc, ← ht, ← Hrr.out, List.take_append_drop]
                have h1 := one_of_form cc256 (t ++ ((bs s).drop k).drop 4)
                rw [← hd, hLL] at h1
                exact unq_step hu.out (by omega) H34.out.1 h1
              have hkn : k + L ≤ n := by
                obtain ⟨t, ht⟩ := hpre.out
                have := congrArg List.length ht
                rw [← Hrr.out, List.length_take, List.length_drop, Hln.out, List.length_append, hLL] at this
                omega
              rw [hLL] at hL
              have HS := Lib.hid hstep
              have hLL' : (k + (formN cc).length : Nat) = k + L := by rw [hLL]
              have HLL := Lib.hid hLL'
              have hout : (out ++ [cc]).length ≤ k + L := by have := Hol.out; simp; omega
              have Hout := Lib.hid hout
              clear hstep hout hLL'
              have hc2 : cN < 256 ∨ ¬ cN < 256 := by omega
              rcases hc2 with hc2 | hc2
              all_goals
                go_wp2_with fail
                subst hQ
                go_wp2_with fail
                go_roundw
                case rel => exact ⟨k + L, f - 1, out ++ [cc], hkn, by omega, by go_num, HS.out, hb, ho.out, Hout.out⟩
                case measure => simp [intOf]; omega
  · have d4 : ((c0 : Int) != 34) = true := by simp; omega
    have hv : unquoteN (bs s) k0 = ([], (k0 : Int), 10) := by rw [hgate, if_pos (by rw [hc0]; simpa using h4)]
    have HV := Lib.hid hv
    clear hv hln hgate hc0
    go_enter Tryd.func65, Tryd.ntmps65
    go_wp2_with fail
    go_ret3
    exact ⟨by rw [HV.out]; rfl, Below.refl _ _⟩
end Go.Proofs.YtdkoafmgenbkbaaDoor
