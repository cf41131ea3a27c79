/- - -/
import Derived.Test.YtpkggobhhieeoaaDoorKM3
set_option maxRecDepth 100000
set_option maxHeartbeats 32000000
set_option linter.unusedSimpArgs false
set_option linter.unusedVariables false
namespace Go.Proofs.YtpkggobhhieeoaaDoor
open Go.RowKit
def marksV : Array Value := (marksL.map fun m => Value.string (txt m)).toArray
def Marks (w : World) : Prop := w.var? Tryd.prog "topiary/lex.marks" = some marksV
theorem lex_var_keep {P : Program} {w w' : World} {n : String} {cs : Array Value} (h : w.var? P n = some cs) (hb : Below w.heap.size w w') : w'.var? P n = some cs := by
  unfold World.var? at h ⊢
  cases hg : P.globalNamed n with
  | none => rw [hg] at h; simp at h
  | some g =>
    rw [hg] at h
    simp only [Option.bind_some] at h ⊢
    have hlt : g < w.heap.size := by
      rcases Nat.lt_or_ge g w.heap.size with hlt | hge
      · exact hlt
      · rw [Array.getElem?_eq_none hge] at h; cases h
    rw [hb.block g hlt]
    exact h
theorem Marks.below {w w' : World} (h : Marks w) (hb : Below w.heap.size w w') : Marks w' := lex_var_keep h hb
theorem Marks.drewN {w : World} (h : Marks w) (n : Nat) : Marks (w.drewN n) := h
theorem marks_block {w : World} (h : Marks w) : ∃ t fr, w.heap[0]? = some (.cells marksV t fr) := by
  unfold Marks World.var? at h
  rw [show Tryd.prog.globalNamed "topiary/lex.marks" = some 0 by kernel_rfl] at h
  simp only [Option.bind_some] at h
  cases hh : w.heap[0]? with
  | none => rw [hh] at h; cases h
  | some o =>
    rw [hh] at h
    cases o with
    | cells cs t fr => simp only [Option.some.injEq] at h; subst h; exact ⟨t, fr, rfl⟩
    | _ => cases h
theorem marks_index (k : Nat) (hk : k < 16) (W : World) : ∃ m, marksL[k]? = some m ∧ m ≠ [] ∧ m.length ≤ 2 ∧ (Instr.index 135 (.agg marksV) (.int .i64 (k : Int))).run Tryd.prog W = .ok (.string (txt m)) W := by
  rcases k with _ | _ | _ | _ | _ | _ | _ | _ | _ | _ | _ | _ | _ | _ | _ | _ | k
  all_goals first | omega | exact ⟨_, rfl, by simp, by simp, by kernel_rfl⟩
theorem find_drop {p : List Nat → Bool} {l : List (List Nat)} {k : Nat} {m : List Nat} (h : l[k]? = some m) : (l.drop k).find? p = if p m = true then some m else (l.drop (k + 1)).find? p := by
  have hk := (List.getElem?_eq_some_iff.1 h).1
  rw [List.drop_eq_getElem_cons hk, (List.getElem?_eq_some_iff.1 h).2, List.find?_cons]
  cases p m <;> rfl
theorem lex_mark (s : ByteArray) (c0 : Nat) (hc0 : (bs s)[0]? = some c0) (hs : s.size ≤ 4096) (R : List Nat × Nat) (hR : markN (bs s) = R) (w : World) (hm : Marks w) : Calls Tryd.prog 77 #[.string s] w fun e w' => e = .returned (.tuple #[.string (txt R.1), .int .i64 (R.2 : Int)]) ∧ Quiet w w' := by
  obtain ⟨tt, fr, hg1⟩ := marks_block hm
  have hF : (match (marksL.drop 0).find? (fun m => m.isPrefixOf (bs s)) with | some m => (m, m.length) | none => if (bs s).head? = some 33 ∨ (bs s).head? = some 61 then ([], 1) else ([], 0)) = R := hR
  have HF := zH hF
  have i0 := fun W => index_txt W 9 Tryd.underlying9 hc0 .i64 0 rfl
  have hhead : (bs s).head? = some c0 := by rw [List.head?_eq_getElem?]; exact hc0
  have Hhead := zH hhead
  have hpos : 0 < s.size := by rw [← bs_len]; exact (List.getElem?_eq_some_iff.1 hc0).1
  clear hm hF hR hc0 hhead
  go_enter Tryd.func77, Tryd.ntmps77
  go_wp2_with (refine wpList_load_row rfl 135 _ rfl 0 rfl tt _ fr _ hg1 Tryd.underlying135 rfl (by kernel_rfl) ?_)
  go_loopw [7] (fun i wr => ∃ k : Nat, k ≤ 16 ∧ i = .int .i64 (k : Int) ∧ Hid ((match (marksL.drop k).find? (fun m => m.isPrefixOf (bs s)) with | some m => (m, m.length) | none => if (bs s).head? = some 33 ∨ (bs s).head? = some 61 then ([], 1) else ([], 0)) = R) ∧ Quiet w wr) (fun i _ => 16 - (intOf i).toNat)
  case atStart => exact ⟨0, by omega, by go_num, HF.out, Quiet.refl _⟩
  case round =>
    obtain ⟨k, hk, rfl, hu, hq⟩ := hrel
    have b1 : (0 : Int) ≤ (k : Int) := Int.natCast_nonneg _
    by_cases hlt : k < 16
    · obtain ⟨m, hm, hne, hml, _⟩ := marks_index k hlt wr
      have hidx : ∀ W, (Instr.index 135 (.agg marksV) (.int .i64 (k : Int))).run Tryd.prog W = .ok (.string (txt m)) W := fun W => by
        obtain ⟨m', hm', _, _, h⟩ := marks_index k hlt W
        rw [hm] at hm'
        injection hm' with hm'
        subst hm'
        exact h
      have hby : Bytes m := by
        have : ∀ m ∈ marksL, ∀ n ∈ m, n < 256 := by decide
        exact this m (List.mem_iff_getElem?.2 ⟨k, hm⟩)
      have hsz : (txt m).size = m.length := txt_size m
      have hszi : ((txt m).size : Int) = (m.length : Int) := by rw [hsz]
      obtain ⟨b, hb⟩ : ∃ b, m.isPrefixOf (bs s) = b := ⟨_, rfl⟩
      have PX := zH (fun W => lex_prefix s (txt m) (by unfold maxLen; omega) (by rw [hsz]; unfold maxLen; omega) b (by rw [bs_txt hby]; exact hb) W)
      have hf := find_drop (p := fun m => m.isPrefixOf (bs s)) hm
      rw [hb] at hf
      cases b with
      | true =>
        have hv := hu.out
        rw [hf, if_pos rfl] at hv
        have HV := zH hv
        clear hu hv hm hne hby hb hf
        go_wp2_with (go_at_call 27; refine (PX.out _).mono ?_; rintro e w1 ⟨rfl, q1⟩)
        go_ret2
        exact ⟨by rw [← HV.out]; rfl, hq.trans q1⟩
      | false =>
        have hv := hu.out
        rw [hf, if_neg (by simp)] at hv
        have HV := zH hv
        clear hu hv hm hne hby hb hf
        go_wp2_with (go_at_call 27; refine (PX.out _).mono ?_; rintro e w1 ⟨rfl, q1⟩)
        go_roundw
        case rel => exact ⟨k + 1, by omega, by go_num, HV.out, hq.trans q1⟩
        case measure => simp [intOf]; omega
    · have hk16 : k = 16 := by omega
      subst hk16
      have hv := hu.out
      rw [show (marksL.drop 16) = [] from rfl, List.find?_nil, Hhead.out] at hv
      have hdec : decide (((16 : Nat) : Int) < 16) = false := by decide
      clear hu
      by_cases h33 : c0 = 33
      · subst h33
        have HV := zH hv
        clear hv
        go_wp2_with fail
        go_ret2
        exact ⟨by rw [← HV.out]; rfl, hq⟩
      · have e1 : ((c0 : Int) == 33) = false := by simp; omega
        by_cases h61 : c0 = 61
        · subst h61
          have HV := zH hv
          clear hv
          go_wp2_with fail
          go_ret2
          exact ⟨by rw [← HV.out]; rfl, hq⟩
        · have e2 : ((c0 : Int) == 61) = false := by simp; omega
          rw [if_neg (by simp; omega)] at hv
          have HV := zH hv
          clear hv
          go_wp2_with fail
          go_ret2
          exact ⟨by rw [← HV.out]; rfl, hq⟩
theorem Quiet.cell {w w' : World} (h : Quiet w w') {a : Addr} {v : Value} (hc : w.cell? a = some v) : w'.cell? a = some v := by
  obtain ⟨n, rfl⟩ := h
  exact hc
theorem takeWhile_run {p : Nat → Bool} : ∀ (r : List Nat) (j : Nat), j ≤ r.length → (∀ i, i < j → ∃ c, r[i]? = some c ∧ p c = true) → (j = r.length ∨ ∃ c, r[j]? = some c ∧ p c = false) → r.takeWhile p = r.take j
  | [], j, h, _, _ => by simp
  | a :: r, 0, _, _, h => by
    rcases h with h | ⟨c, h, hp⟩
    · simp at h
    · simp at h; subst h; rw [List.takeWhile_cons, if_neg (by rw [hp]; simp), List.take_zero]
  | a :: r, j + 1, h, h1, h2 => by
    obtain ⟨c, hc, hp⟩ := h1 0 (by omega)
    simp at hc
    subst hc
    rw [List.takeWhile_cons, if_pos hp, List.take_succ_cons, takeWhile_run r j (by simpa using h) (fun i hi => by simpa using h1 (i + 1) (by omega)) (by simpa using h2)]
theorem lex_run (s : ByteArray) (k0 : Nat) (hk0 : k0 ≤ s.size) (hs : s.size ≤ 4096) (w : World) (g0 g1 : Nat) (h1 : Blk w g0 9 #[.string s]) (h2 : Blk w g1 3 #[.int .i64 (k0 : Int)]) : Calls Tryd.prog 71 #[.pointer (some ⟨g1, 0, none⟩), .pointer (some ⟨g0, 0, none⟩)] w fun e w' => e = .returned (.string (txt (((bs s).drop k0).takeWhile furtherN))) ∧ Quiet w w' := by
  obtain ⟨n, hn⟩ : ∃ n, s.size = n := ⟨_, rfl⟩
  have Hn := zH hn
  rw [hn] at hs hk0
  have hn' : (s.size : Int) = (n : Int) := by rw [hn]
  clear hn
  have C1 := h1.cell (i := 0) rfl
  have C2 := h2.cell (i := 0) rfl
  clear h1 h2
  go_enter Tryd.func71, Tryd.ntmps71
  go_wp2_with fail
  go_loopw [3] (fun i wr => ∃ j : Nat, k0 + j ≤ n ∧ i = .int .i64 ((k0 + j : Nat) : Int) ∧ Hid (∀ i, i < j → ∃ c, ((bs s).drop k0)[i]? = some c ∧ furtherN c = true) ∧ Quiet w wr) (fun i _ => n - (intOf i).toNat)
  case atStart => exact ⟨0, by omega, by go_num, fun i hi => by omega, Quiet.refl _⟩
  case round =>
    obtain ⟨j, hj, rfl, hu, hq⟩ := hrel
    obtain ⟨k, hk⟩ : ∃ k, k0 + j = k := ⟨_, rfl⟩
    rw [hk] at hj ⊢
    have b1 : (0 : Int) ≤ (k : Int) := Int.natCast_nonneg _
    have b2 : (0 : Int) ≤ (k0 : Int) := Int.natCast_nonneg _
    have C1' := hq.cell C1
    have C2' := hq.cell C2
    by_cases hlt : k < n
    · obtain ⟨c, hc, c256⟩ := get_bs (s := s) (k := k) (by rw [Hn.out]; exact hlt)
      have i1 := fun W => index_txt W 9 Tryd.underlying9 hc .i64 _ rfl
      obtain ⟨b, hb⟩ : ∃ b, furtherN c = b := ⟨_, rfl⟩
      have F := zH (fun W => lex_further c b hb W)
      have hcj : ((bs s).drop k0)[j]? = some c := by rw [List.getElem?_drop, hk]; exact hc
      cases b with
      | true =>
        have hnew : ∀ i, i < j + 1 → ∃ c, ((bs s).drop k0)[i]? = some c ∧ furtherN c = true := fun i hi => by
          by_cases e : i = j
          · subst e; exact ⟨c, hcj, hb⟩
          · exact hu.out i (by omega)
        have HN := zH hnew
        clear hnew hu hc hcj hb
        go_wp2_with (go_at_call 72; refine (F.out _).mono ?_; rintro e w1 ⟨rfl, q1⟩)
        go_roundw
        case rel => exact ⟨j + 1, by omega, by go_num, HN.out, hq.trans q1⟩
        case measure => simp [intOf]; omega
      | false =>
        have hv := takeWhile_run (p := furtherN) ((bs s).drop k0) j (by rw [List.length_drop, bs_len, Hn.out]; omega) hu.out (Or.inr ⟨c, hcj, hb⟩)
        have hx : s.extract k0 k = txt (((bs s).drop k0).takeWhile furtherN) := by
          apply bs_inj
          rw [bs_txt (fun x hx => bs_bytes s x (List.mem_of_mem_drop ((List.takeWhile_sublist _).subset hx))), hv, bs_extract, List.drop_take, show k - k0 = j by omega]
        have HX := zH hx
        clear hu hc hcj hb hv hx
        go_wp2_with (go_at_call 72; refine (F.out _).mono ?_; rintro e w1 ⟨rfl, q1⟩; have C1'' := q1.cell C1'; have C2'' := q1.cell C2')
        go_ret
        exact ⟨by rw [← HX.out]; rfl, hq.trans q1⟩
    · have hdec : decide (k < n) = false := by simp; omega
      have hdec2 : decide ((k : Int) < (n : Int)) = false := by simp; omega
      have hv := takeWhile_run (p := furtherN) ((bs s).drop k0) j (by rw [List.length_drop, bs_len, Hn.out]; omega) hu.out (Or.inl (by rw [List.length_drop, bs_len, Hn.out]; omega))
      have hx : s.extract k0 k = txt (((bs s).drop k0).takeWhile furtherN) := by
        apply bs_inj
        rw [bs_txt (fun x hx => bs_bytes s x (List.mem_of_mem_drop ((List.takeWhile_sublist _).subset hx))), hv, bs_extract, List.drop_take, show k - k0 = j by omega]
      have HX := zH hx
      clear hu hv hx
      go_wp2_with fail
      go_ret
      exact ⟨by rw [← HX.out]; rfl, hq⟩
end Go.Proofs.YtpkggobhhieeoaaDoor
