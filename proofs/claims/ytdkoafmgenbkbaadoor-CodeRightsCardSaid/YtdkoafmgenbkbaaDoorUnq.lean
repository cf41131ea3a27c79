/- What the program's Unquote answers, of any text of at most 1048576 bytes at any place: as a plain function. -/
import Derived.Test.YtdkoafmgenbkbaaDoorQuote
import Derived.WalkMore
namespace Go.Proofs.YtdkoafmgenbkbaaDoor
set_option linter.unusedSimpArgs false
set_option linter.unusedVariables false
open Go.RowKit

theorem one_some {r : List Nat} (hr : Bytes r) (h34 : r.head? ≠ some 34) {c n m : Nat} (h : one r = (some (c, n), m)) : c < 256 ∧ n = (formN c).length ∧ ∃ t, r = formN c ++ t := by
  match r, h34, h, hr with
  | [], _, h, _ => simp [one] at h
  | b :: t, h34, h, hr =>
    have b256 : b < 256 := hr b (by simp)
    by_cases hb : b = 92
    · subst hb
      simp only [one, if_pos] at h
      match t, h, hr with
      | [], h, _ => simp [esc] at h
      | d :: t, h, hr =>
        by_cases h1 : d = 34
        · subst h1; simp [esc] at h; obtain ⟨⟨rfl, rfl⟩, _⟩ := h; exact ⟨by omega, rfl, t, rfl⟩
        by_cases h2 : d = 92
        · subst h2; simp [esc] at h; obtain ⟨⟨rfl, rfl⟩, _⟩ := h; exact ⟨by omega, rfl, t, rfl⟩
        by_cases h3 : d = 110
        · subst h3; simp [esc] at h; obtain ⟨⟨rfl, rfl⟩, _⟩ := h; exact ⟨by omega, rfl, t, rfl⟩
        by_cases h4 : d = 120
        · subst h4
          match t, h, hr with
          | [], h, _ => simp [esc] at h
          | x :: t, h, hr =>
            by_cases hg : 15 < digitN x ∨ (hiddenN (16 * digitN x) = false ∧ hiddenN (16 * digitN x + 15) = false)
            · simp [esc, hg] at h
            · match t, h, hr with
              | [], h, _ => simp [esc, hg] at h
              | y :: t, h, hr =>
                by_cases hl : 15 < digitN y ∨ hiddenN (16 * digitN x + digitN y) = false
                · simp [esc, hg, hl] at h
                · simp [esc, hg, hl] at h
                  obtain ⟨⟨rfl, rfl⟩, _⟩ := h
                  have d1 : digitN x ≤ 15 := by omega
                  have d2 : digitN y ≤ 15 := by omega
                  have hh : hiddenN (16 * digitN x + digitN y) = true := by
                    rcases hb : hiddenN (16 * digitN x + digitN y) with _ | _
                    · exact absurd (Or.inr hb) hl
                    · rfl
                  have q1 : (16 * digitN x + digitN y) / 16 = digitN x := by omega
                  have q2 : (16 * digitN x + digitN y) % 16 = digitN y := by omega
                  rw [form_hidden hh, q1, q2, hex_of_digit x d1, hex_of_digit y d2]
                  exact ⟨by omega, rfl, t, rfl⟩
        · simp [esc, h1, h2, h3, h4] at h
    · by_cases hp : b < 32 ∨ 126 < b
      · simp [one, hb, hp] at h
      · simp [one, hb, hp] at h
        obtain ⟨⟨rfl, rfl⟩, _⟩ := h
        have h34' : b ≠ 34 := by simpa using h34
        rw [form_plain (by omega) (by omega) h34' hb]
        exact ⟨b256, rfl, t, rfl⟩
theorem esc_some {l : List Nat} (hl : Bytes l) {c n m : Nat} (h : esc l = (some (c, n), m)) : c < 256 ∧ 2 ≤ n ∧ n ≤ l.length + 1 := by
  have h1 : one (92 :: l) = (some (c, n), m) := by simp [one, h]
  obtain ⟨c1, c2, t, c3⟩ := one_some (fun k hk => by rcases List.mem_cons.1 hk with rfl | hk; omega; exact hl k hk) (by simp) h1
  have e := congrArg List.length c3
  simp at e
  have : formN c ≠ [92] := by
    rcases form_cases c with ⟨_, h⟩ | ⟨_, h⟩ | ⟨_, h⟩ | ⟨_, _, _, h4, h⟩ | ⟨_, h⟩ <;> rw [h] <;> simp [*]
  have hl1 : (formN c).length ≠ 1 := by
    intro hl1
    match hf : formN c, hl1, c3 with
    | [z], _, c3 =>
      injection c3 with c4 _
      exact this (by rw [hf, ← c4])
  have := form_len c
  omega
theorem esc_none {l : List Nat} {n : Nat} (h : esc l = (none, n)) : 1 ≤ n ∧ n ≤ l.length + 1 := by
  match l, h with
  | [], h => simp [esc] at h; subst h; simp
  | d :: t, h =>
    simp only [esc] at h
    split at h
    · simp at h
    · split at h
      · simp at h
      · split at h
        · simp at h; subst h; simp
        · match t, h with
          | [], h => simp at h; subst h; simp
          | x :: t, h =>
            simp only at h
            split at h
            · simp at h; subst h; simp
            · match t, h with
              | [], h => simp at h; subst h; simp
              | y :: t, h =>
                simp only at h
                split at h
                · simp at h; subst h; simp
                · simp at h

/-- what is read from place i on -/
def unq (l : List Nat) : Nat → Nat → List Nat → List Nat × Nat × Nat
  | 0, i, _ => ([], i, 10)
  | f + 1, i, out => if l[i]? = some 34 then (out, i + 1, 0) else
    match one (l.drop i) with
    | (some (c, n), _) => unq l f (i + n) (out ++ [c])
    | (none, far) => ([], i + far, 10)
def unquoteN (l : List Nat) (a : Int) : List Nat × Int × Nat :=
  if a < 0 ∨ (l.length : Int) < a then ([], 0, 2) else if l[a.toNat]? ≠ some 34 then ([], a, 10) else
    ((unq l (l.length + 1) (a.toNat + 1) []).1, ((unq l (l.length + 1) (a.toNat + 1) []).2.1 : Int), (unq l (l.length + 1) (a.toNat + 1) []).2.2)
def unqV (r : List Nat × Int × Nat) : Value := .tuple #[.string (txt r.1), .int .i64 r.2.1, .int .i64 (r.2.2 : Int)]

theorem unq_end {l : List Nat} {f i : Nat} {o : List Nat} {R : List Nat × Nat × Nat} (h : unq l f i o = R) (hf : 1 ≤ f) (hi : l[i]? = some 34) : R = (o, i + 1, 0) := by
  obtain ⟨f, rfl⟩ : ∃ g, f = g + 1 := ⟨f - 1, by omega⟩
  rw [← h, unq, if_pos hi]
theorem unq_stop {l : List Nat} {f i far : Nat} {o : List Nat} {R : List Nat × Nat × Nat} (h : unq l f i o = R) (hf : 1 ≤ f) (hi : l[i]? ≠ some 34) (ho : one (l.drop i) = (none, far)) : R = ([], i + far, 10) := by
  obtain ⟨f, rfl⟩ : ∃ g, f = g + 1 := ⟨f - 1, by omega⟩
  rw [← h, unq, if_neg hi, ho]
theorem unq_step {l : List Nat} {f i c n m : Nat} {o : List Nat} {R : List Nat × Nat × Nat} (h : unq l f i o = R) (hf : 1 ≤ f) (hi : l[i]? ≠ some 34) (ho : one (l.drop i) = (some (c, n), m)) : unq l (f - 1) (i + n) (o ++ [c]) = R := by
  obtain ⟨f, rfl⟩ : ∃ g, f = g + 1 := ⟨f - 1, by omega⟩
  rw [← h, unq, if_neg hi, ho]
  rfl

set_option maxHeartbeats 4000000 in
theorem unquote_any (s : ByteArray) (a : Int) (ha : (Lit.int .i64 a).wf = true) (hs : s.size ≤ 1048576) (w : World) : Calls Tryd.prog 63 #[.string s, .int .i64 a] w fun e w' => e = .returned (unqV (unquoteN (bs s) a)) ∧ Below w.heap.size w w' := by
  obtain ⟨j, hi, hz, hsz, hby⟩ := info_parts info_byte
  have I := Lib.hid (And.intro hi (And.intro hz (And.intro hsz hby)))
  clear hi hz hsz hby
  obtain ⟨n, hn⟩ : ∃ n, s.size = n := ⟨_, rfl⟩
  have Hn := Lib.hid hn
  have hln : (bs s).length = n := by rw [bs_len, hn]
  have Hln := Lib.hid hln
  rw [hn] at hs
  have hn' : (s.size : Int) = (n : Int) := by rw [hn]
  clear hn
  by_cases h1 : a < 0
  · have hv : unquoteN (bs s) a = ([], 0, 2) := by simp [unquoteN, h1]
    have HV := Lib.hid hv
    clear hv hln
    go_enter Tryd.func63, Tryd.ntmps63
    go_wp2_with fail
    go_step3
    go_wp2_with fail
    rw [Exit.noGoto_ret]
    go_ret3
    exact ⟨by rw [HV.out]; rfl, Below.refl _ _⟩
  have d1 : decide (a < 0) = false := by simpa using h1
  by_cases h2 : (n : Int) < a
  · have hv : unquoteN (bs s) a = ([], 0, 2) := by simp [unquoteN, hln, h2]
    have HV := Lib.hid hv
    clear hv hln
    go_enter Tryd.func63, Tryd.ntmps63
    go_wp2_with fail
    go_step3
    go_wp2_with fail
    rw [Exit.noGoto_ret]
    go_ret3
    exact ⟨by rw [HV.out]; rfl, Below.refl _ _⟩
  have d2 : decide ((n : Int) < a) = false := by simpa using h2
  obtain ⟨k0, rfl⟩ : ∃ k : Nat, a = (k : Int) := ⟨a.toNat, by omega⟩
  have hgate : unquoteN (bs s) k0 = if (bs s)[k0]? ≠ some 34 then ([], (k0 : Int), 10) else ((unq (bs s) (n + 1) (k0 + 1) []).1, ((unq (bs s) (n + 1) (k0 + 1) []).2.1 : Int), (unq (bs s) (n + 1) (k0 + 1) []).2.2) := by
    unfold unquoteN
    rw [if_neg (by rw [hln]; omega), hln]
    rfl
  have d2' : decide (n < k0) = false := by simp; omega
  by_cases h3 : k0 = n
  · subst h3
    have hv : unquoteN (bs s) k0 = ([], (k0 : Int), 10) := by
      rw [hgate, if_pos (by rw [List.getElem?_eq_none (by omega)]; simp)]
    have HV := Lib.hid hv
    clear hv hln hgate
    go_enter Tryd.func63, Tryd.ntmps63
    go_wp2_with fail
    go_step3
    go_wp2_with fail
    rw [Exit.noGoto_ret]
    go_ret3
    exact ⟨by rw [HV.out]; rfl, Below.refl _ _⟩
  have d3 : ((k0 : Int) == (n : Int)) = false := by simp; omega
  have hk0 : k0 < s.size := by omega
  have b0 : (0 : Int) ≤ (k0 : Int) := Int.natCast_nonneg _
  obtain ⟨c0, hc0, c0256⟩ := get_bs hk0
  have i0 := fun W => index_txt W 9 Tryd.underlying9 hc0 .i64 _ rfl
  by_cases h4 : c0 = 34
  · subst h4
    rw [hc0, if_neg (by simp)] at hgate
    have HG := Lib.hid hgate
    have hR : unq (bs s) (n + 1) (k0 + 1) [] = unq (bs s) (n + 1) (k0 + 1) [] := rfl
    generalize hRR : unq (bs s) (n + 1) (k0 + 1) [] = R at HG hR
    clear hR
    have HR := Lib.hid hRR
    have I0 := Lib.hid i0
    clear hgate hc0 hRR hln i0
    have i0 := I0.out
    go_enter Tryd.func63, Tryd.ntmps63
    go_wp2_with fail
    go_step3
    go_wp2_with fail
    go_step3
    go_wp2_with fail
    go_loopw [7, 8] (fun o i wr => ∃ (k f : Nat) (out : List Nat), k ≤ n ∧ n < f + k ∧ i = .int .i64 k ∧ Hid (unq (bs s) f k out = R) ∧ Below w.heap.size w wr ∧ Hid (Own1 wr w.heap.size 5 1 IsByte o out ∧ out.length ≤ k)) (fun _ i _ => n - (intOf i).toNat)
    case atStart => exact ⟨k0 + 1, n + 1, [], by omega, by omega, by go_num, HR.out, Below.refl _ _, ⟨[], World.ownsRow_nil _ _ _ _, FlatR.nil_⟩, by simp⟩
    case round =>
      obtain ⟨k, f, out, hk, hf, rfl, hu, hb, ho⟩ := hrel
      clear i0 I0
      have b1 : (0 : Int) ≤ (k : Int) := Int.natCast_nonneg _
      by_cases hlt : k < n
      · have hlt' : k < s.size := by omega
        obtain ⟨c, hc, c256⟩ := get_bs hlt'
        have i1 := fun W => index_txt W 9 Tryd.underlying9 hc .i64 _ rfl
        have hdrop := drop_bs hc
        have hbz := hb.size
        by_cases c1 : c = 34
        · subst c1
          have hv := unq_end hu.out (by omega) hc
          have HV := Lib.hid hv
          have hcv := run_text_of_row 69 9 5 Tryd.underlying69 Tryd.underlying5 Tryd.underlying9 ho.out.1
          clear hv hc hdrop
          go_wp2_with fail
          (try simp only [Exit.inBlock, Exit.then, Exit.noGoto_ret])
          go_ret3
          exact ⟨by rw [HG.out, HV.out]; rfl, hb⟩
        have e1 : ((c : Int) == 34) = false := by simp; omega
        have hne : (bs s)[k]? ≠ some 34 := by rw [hc]; simpa using c1
        by_cases c2 : c = 92
        · subst c2
          have hone : one ((bs s).drop k) = esc ((bs s).drop (k + 1)) := by rw [hdrop]; rfl
          have hx : bs (s.extract k s.size) = 92 :: (bs s).drop (k + 1) := by
            rw [bs_extract, ← hdrop, List.take_of_length_le (by rw [bs_len]; exact Nat.le_refl _)]
          have hxs : (s.extract k s.size).size ≤ maxLen := by
            rw [← bs_len, hx, List.length_cons, List.length_drop, Hln.out]; unfold maxLen; omega
          have hby : Bytes ((bs s).drop (k + 1)) := fun m hm => bs_bytes s m (List.mem_of_mem_drop hm)
          have hdl : ((bs s).drop (k + 1)).length = n - (k + 1) := by rw [List.length_drop, Hln.out]
          have E : Hid (∀ W, Calls Tryd.prog 82 #[.string (s.extract k s.size)] W fun e w' => e = .returned (escV ((bs s).drop (k + 1))) ∧ Quiet W w') := Lib.hid (fun W => escape_any (s.extract k s.size) 92 ((bs s).drop (k + 1)) hx hxs W)
          have tok : True := trivial
          rcases hE : esc ((bs s).drop (k + 1)) with ⟨_ | ⟨c', n'⟩, m'⟩
          · have hm := esc_none hE
            rw [hdl] at hm
            have hv := unq_stop hu.out (by omega) hne (hone.trans hE)
            have HV := Lib.hid hv
            have he : escV ((bs s).drop (k + 1)) = .tuple #[.int .u8 0, .int .i64 (m' : Int), .bool false] := by simp [escV, hE]
            rw [he] at E
            clear hv hc hdrop hone hx hxs hby hdl hne hE he
            go_wp2_with (first
              | (go_at_call 82; have _t := tok; refine (E.out _).mono ?_; rintro e w1 ⟨rfl, qq⟩; clear tok _t)
              | (go_at_call 82; trace_state; fail))
            (try simp only [Exit.inBlock, Exit.then, Exit.noGoto_ret])
            go_ret3
            exact ⟨by rw [HG.out, HV.out]; simp [unqV, txt], by obtain ⟨q, rfl⟩ := qq; exact below_drewN hb q⟩
          · have hm := esc_some hby hE
            rw [hdl] at hm
            have hv := unq_step hu.out (by omega) hne (hone.trans hE)
            have HV := Lib.hid hv
            have he : escV ((bs s).drop (k + 1)) = .tuple #[.int .u8 (c' : Int), .int .i64 (n' : Int), .bool true] := by simp [escV, hE]
            rw [he] at E
            clear hv hc hdrop hone hx hxs hby hdl hne hE he
            obtain ⟨hol, hok⟩ := ho.out
            have Ho := Lib.hid hol
            clear ho hol
            go_wp2_with (first
              | (go_at_call 82; have _t := tok; refine (E.out _).mono ?_; rintro e w1 ⟨rfl, qq⟩
                 have ho1 : Hid (Own1 w1 w.heap.size 5 1 IsByte u7 out) := by
                   obtain ⟨q, rfl⟩ := qq
                   exact Ho.out.drewN q
                 have hb1 : Below w.heap.size w w1 := by
                   obtain ⟨q, rfl⟩ := qq
                   exact below_drewN hb q
                 have hz1 := hb1.size
                 clear tok _t qq Ho hb)
              | (at_builtin
                 go_must (refine wpList_append_bytes rfl (.tmp 70) (.tmp 72) _ rfl w.heap.size (w1.heap.size + 1) 5 j Tryd.underlying69 I.out.1 I.out.2.1 I.out.2.2.1 I.out.2.2.2 (l := out) (m := [c']) u7 rfl (by exact ho1.out.alloc _) (some ⟨w1.heap.size, 0, none⟩) 1 1 rfl (by exact bytes_row (xs := [.int .u8 (c' : Int)]) rfl rfl (fun m hm => by simp at hm; omega) (by simp [maxLen]) 1 1 rfl rfl) (by omega) (by rw [World.size_alloc]; omega) ?_)
                 intro xa xn xc w4 hown hb4
                 have hbb : Below w.heap.size w w4 := (hb1.alloc (by omega) _).trans hb4))
            go_roundw
            case rel => exact ⟨k + n', f - 1, out ++ [c'], by omega, by omega, by go_num, HV.out, hbb, hown, by simp; omega⟩
            case measure => simp [intOf]; omega
        have e2 : ((c : Int) == 92) = false := by simp; omega
        by_cases c3 : c < 32 ∨ 126 < c
        · have hone : one ((bs s).drop k) = (none, 0) := by rw [hdrop]; simp [one, c2, c3]
          have hv := unq_stop hu.out (by omega) hne hone
          have HV := Lib.hid hv
          clear hv hc hdrop hone hne
          have c3' : c < 32 ∨ (¬ c < 32 ∧ 126 < c) := by omega
          clear c3
          rcases c3' with c3 | ⟨c3, c4⟩
          all_goals
            go_wp2_with fail
            (try simp only [Exit.inBlock, Exit.then, Exit.noGoto_ret])
            go_ret3
            exact ⟨by rw [HG.out, HV.out]; simp [unqV, txt], hb⟩
        · have hone : one ((bs s).drop k) = (some (c, 1), 1) := by rw [hdrop]; simp [one, c2, c3]
          have hv := unq_step hu.out (by omega) hne hone
          have HV := Lib.hid hv
          have c4 : ¬ c < 32 := by omega
          have c5 : ¬ 126 < c := by omega
          clear hv hc hdrop hone hne c3
          obtain ⟨hol, hok⟩ := ho.out
          have Ho := Lib.hid hol
          clear ho hol
          go_wp2_with (at_builtin
                       go_must (refine wpList_append_bytes rfl (.tmp 41) (.tmp 43) _ rfl w.heap.size (wr.heap.size + 1) 5 j Tryd.underlying69 I.out.1 I.out.2.1 I.out.2.2.1 I.out.2.2.2 (l := out) (m := [c]) u7 rfl (by exact Ho.out.alloc _) (some ⟨wr.heap.size, 0, none⟩) 1 1 rfl (by exact bytes_row (xs := [.int .u8 (c : Int)]) rfl rfl (fun m hm => by simp at hm; omega) (by simp [maxLen]) 1 1 rfl rfl) (by omega) (by rw [World.size_alloc]; omega) ?_)
                       intro xa xn xc w4 hown hb4
                       have hbb : Below w.heap.size w w4 := (hb.alloc (by omega) _).trans hb4)
          go_roundw
          case rel => exact ⟨k + 1, f - 1, out ++ [c], by omega, by omega, by go_num, HV.out, hbb, hown, by simp; omega⟩
          case measure => simp [intOf]; omega
      · have hv := unq_stop hu.out (far := 0) (by omega) (by rw [List.getElem?_eq_none (by rw [Hln.out]; omega)]; simp) (by rw [List.drop_of_length_le (by rw [Hln.out]; omega)]; rfl)
        have HV := Lib.hid hv
        clear hv
        have hdec : decide (k < n) = false := by simp; omega
        go_wp2_with fail
        (try simp only [Exit.inBlock, Exit.then, Exit.noGoto_ret])
        go_ret3
        exact ⟨by rw [HG.out, HV.out]; simp [unqV, txt], hb⟩
  · have d4 : ((c0 : Int) != 34) = true := by simp; omega
    have hv : unquoteN (bs s) k0 = ([], (k0 : Int), 10) := by rw [hgate, if_pos (by rw [hc0]; simpa using h4)]
    have HV := Lib.hid hv
    clear hv hln hgate hc0
    go_enter Tryd.func63, Tryd.ntmps63
    go_wp2_with fail
    go_step3
    go_wp2_with fail
    rw [Exit.noGoto_ret]
    go_ret3
    exact ⟨by rw [HV.out]; rfl, Below.refl _ _⟩
end Go.Proofs.YtdkoafmgenbkbaaDoor
