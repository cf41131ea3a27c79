/- What escape and common answer: the walks. -/
import Derived.Test.YtdkoafmgenbkbaaDoorPlain
namespace Go.Proofs.YtdkoafmgenbkbaaDoor
set_option linter.unusedSimpArgs false
set_option linter.unusedVariables false
open Go.RowKit

theorem drop_bs {l : List Nat} {k c : Nat} (h : l[k]? = some c) : l.drop k = c :: l.drop (k + 1) := by
  have hk := (List.getElem?_eq_some_iff.1 h).1
  rw [List.drop_eq_getElem_cons hk, (List.getElem?_eq_some_iff.1 h).2]

set_option maxHeartbeats 1000000 in
theorem common_any (s t : ByteArray) (hs : s.size ≤ maxLen) (ht : t.size ≤ maxLen) (w : World) : Calls Tryd.prog 83 #[.string s, .string t] w fun e w' => e = .returned (.int .i64 (common (bs s) (bs t) : Int)) ∧ Quiet w w' := by
  unfold maxLen at hs ht
  go_enter Tryd.func83, Tryd.ntmps83
  go_wp2_with fail
  go_loopw [5] (fun j wr => ∃ k : Nat, j = .int .i64 k ∧ k ≤ s.size ∧ k ≤ t.size ∧ Hid (common (bs s) (bs t) = k + common ((bs s).drop k) ((bs t).drop k)) ∧ Quiet w wr) (fun j _ => s.size - (intOf j).toNat)
  case atStart => exact ⟨0, rfl, by omega, by omega, by simp [Hid], Quiet.refl _⟩
  case round =>
    obtain ⟨k, rfl, h1, h2, h3, hq⟩ := hrel
    have b0 : (0 : Int) ≤ (k : Int) := Int.natCast_nonneg _
    by_cases g1 : k < s.size
    · have p1 : decide ((k : Int) < (s.size : Int)) = true := by simp; omega
      obtain ⟨c, e1, c256⟩ := get_bs g1
      have i1 := fun W => index_txt W 9 Tryd.underlying9 e1 .i64 _ rfl
      by_cases g2 : k < t.size
      · have p2 : decide ((k : Int) < (t.size : Int)) = true := by simp; omega
        obtain ⟨d, e2, d256⟩ := get_bs g2
        have i2 := fun W => index_txt W 9 Tryd.underlying9 e2 .i64 _ rfl
        by_cases g3 : c = d
        · subst g3
          have p3 : ((c : Int) == (c : Int)) = true := by simp
          have E1 := Lib.hid e1
          have E2 := Lib.hid e2
          clear e1 e2
          go_wp2_with fail
          go_quiet (fail)
          go_wp2_with fail
          go_roundw
          case rel =>
            refine ⟨k + 1, by go_num, by omega, by omega, ?_, (by first | exact hq.drewN _ | exact hq)⟩
            have h := h3.out
            rw [drop_bs E1.out, drop_bs E2.out, common, if_pos rfl] at h
            show _ = _
            omega
          case measure => simp [intOf]; omega
        · have p3 : ((c : Int) == (d : Int)) = false := by simp; omega
          have hv : common (bs s) (bs t) = k := by
            have h := h3.out
            rw [drop_bs e1, drop_bs e2, common, if_neg g3] at h
            omega
          have Hv := Lib.hid hv
          clear hv e1 e2
          go_wp2_with fail
          go_quiet (fail)
          go_wp2_with fail
          go_ret
          exact ⟨by rw [Hv.out]; rfl, (by first | exact hq.drewN _ | exact hq)⟩
      · have p2 : decide ((k : Int) < (t.size : Int)) = false := by simp; omega
        have hv : common (bs s) (bs t) = k := by
          have h := h3.out
          have : (bs t).drop k = [] := List.drop_of_length_le (by rw [bs_len]; omega)
          rw [this] at h
          cases hd : (bs s).drop k <;> rw [hd] at h <;> simp only [common] at h <;> omega
        have Hv := Lib.hid hv
        clear hv e1
        go_wp2_with fail
        go_quiet (fail)
        go_wp2_with fail
        go_ret
        exact ⟨by rw [Hv.out]; rfl, (by first | exact hq.drewN _ | exact hq)⟩
    · have p1 : decide ((k : Int) < (s.size : Int)) = false := by simp; omega
      have hv : common (bs s) (bs t) = k := by
        have h := h3.out
        have : (bs s).drop k = [] := List.drop_of_length_le (by rw [bs_len]; omega)
        rw [this] at h
        simp only [common] at h
        omega
      have Hv := Lib.hid hv
      clear hv
      go_wp2_with fail
      go_quiet (fail)
      go_wp2_with fail
      go_ret
      exact ⟨by rw [Hv.out]; rfl, (by first | exact hq.drewN _ | exact hq)⟩

/-- what escape answers of what stands behind the '\\' -/
def escV (l : List Nat) : Value := match esc l with
  | (some (c, n), _) => .tuple #[.int .u8 (c : Int), .int .i64 (n : Int), .bool true]
  | (none, n) => .tuple #[.int .u8 0, .int .i64 (n : Int), .bool false]

theorem bits_or (h l : Nat) (hh : h < 16) (hl : l < 16) : bits .or .u8 ((h : Int) * 16) (l : Int) = (h : Int) * 16 + (l : Int) := by
  have : ∀ h l : Fin 16, bits .or .u8 ((h.1 : Int) * 16) (l.1 : Int) = (h.1 : Int) * 16 + (l.1 : Int) := by decide +kernel
  exact this ⟨h, hh⟩ ⟨l, hl⟩
theorem hidden_at (i : Int) (n : Nat) (b : Bool) (hi : i = (n : Int)) (hb : hiddenN n = b) (w : World) : Calls Tryd.prog 71 #[.int .u8 i] w fun e w' => e = .returned (.bool b) ∧ Quiet w w' := by
  subst hi hb
  exact hidden_any n w

set_option maxHeartbeats 2000000 in
theorem escape_any (s : ByteArray) (b : Nat) (l : List Nat) (hl : bs s = b :: l) (hs : s.size ≤ maxLen) (w : World) : Calls Tryd.prog 82 #[.string s] w fun e w' => e = .returned (escV l) ∧ Quiet w w' := by
  unfold maxLen at hs
  have hsz : s.size = l.length + 1 := by rw [← bs_len, hl]; rfl
  have hby : Bytes l := fun n hn => bs_bytes s n (by rw [hl]; exact List.mem_cons_of_mem _ hn)
  match l, hl, hsz, hby with
  | [], hl, hsz, _ =>
    simp at hsz
    go_enter Tryd.func82, Tryd.ntmps82
    go_wp2_with fail
    go_ret3
    exact ⟨rfl, Quiet.refl _⟩
  | d :: t, hl, hsz, hby =>
    have d256 : d < 256 := hby d (List.mem_cons_self ..)
    have hge : ¬ s.size < 2 := by simp at hsz; omega
    have i1 := fun W => index_txt W 9 Tryd.underlying9 (s := s) (k := 1) (c := d) (by rw [hl]; rfl) .i64 1 rfl
    have I1 := Lib.hid i1
    clear i1
    by_cases h1 : d = 34
    · subst h1
      have i1 := I1.out
      go_enter Tryd.func82, Tryd.ntmps82
      go_wp2_with fail
      go_ret3
      exact ⟨rfl, Quiet.refl _⟩
    have e1 : ((d : Int) == 34) = false := by simp; omega
    by_cases h2 : d = 92
    · subst h2
      have i1 := I1.out
      go_enter Tryd.func82, Tryd.ntmps82
      go_wp2_with fail
      go_ret3
      exact ⟨rfl, Quiet.refl _⟩
    have e2 : ((d : Int) == 92) = false := by simp; omega
    by_cases h3 : d = 110
    · subst h3
      have i1 := I1.out
      go_enter Tryd.func82, Tryd.ntmps82
      go_wp2_with fail
      go_ret3
      exact ⟨rfl, Quiet.refl _⟩
    have e3 : ((d : Int) == 110) = false := by simp; omega
    by_cases h4 : d = 120
    · subst h4
      match t, hl, hsz, hby with
      | [], hl, hsz, _ =>
        have i1 := I1.out
        simp at hsz
        go_enter Tryd.func82, Tryd.ntmps82
        go_wp2_with fail
        go_ret3
        exact ⟨rfl, Quiet.refl _⟩
      | h :: t, hl, hsz, hby =>
        have h256 : h < 256 := hby h (by simp)
        have hge3 : ¬ s.size < 3 := by simp at hsz; omega
        have i2 := fun W => index_txt W 9 Tryd.underlying9 (s := s) (k := 2) (c := h) (by rw [hl]; rfl) .i64 2 rfl
        have I2 := Lib.hid i2
        clear i2
        have hd : digitN h ≤ 16 := by unfold digitN; split <;> (try split) <;> omega
        have D1 := Lib.hid (fun W => digit_any h h256 W)
        obtain ⟨dh, hdh⟩ : ∃ dh, digitN h = dh := ⟨_, rfl⟩
        rw [hdh] at hd D1
        by_cases h5 : 15 < dh
        · have hv : esc (120 :: h :: t) = (none, 2) := by simp [esc, hdh, h5]
          have Hv : escV (120 :: h :: t) = .tuple #[.int .u8 0, .int .i64 2, .bool false] := by simp [escV, hv]
          have HV := Lib.hid Hv
          clear hv Hv
          have i1 := I1.out
          have i2 := I2.out
          go_enter Tryd.func82, Tryd.ntmps82
          go_wp2_with (go_at_call 92; refine (D1.out _).mono ?_; rintro e w1 ⟨rfl, q1⟩)
          go_ret3
          exact ⟨by rw [HV.out]; rfl, q1⟩
        · obtain ⟨ha, hha⟩ : ∃ ha, hiddenN (16 * dh) = ha := ⟨_, rfl⟩
          obtain ⟨hb, hhb⟩ : ∃ hb, hiddenN (16 * dh + 15) = hb := ⟨_, rfl⟩
          have A1 := Lib.hid (fun W => hidden_at ((dh : Int) * 16) (16 * dh) ha (by omega) hha W)
          have B1 := Lib.hid (fun W => hidden_at ((dh : Int) * 16 + 15) (16 * dh + 15) hb (by omega) hhb W)
          have o1 : bits .or .u8 ((dh : Int) * 16) 15 = (dh : Int) * 16 + 15 := bits_or dh 15 (by omega) (by omega)
          have dlt : decide (15 < (dh : Int)) = false := by simp; omega
          by_cases hc : ha = false ∧ hb = false
          · obtain ⟨rfl, rfl⟩ := hc
            have Hv : escV (120 :: h :: t) = .tuple #[.int .u8 0, .int .i64 2, .bool false] := by simp [escV, esc, hdh, h5, hha, hhb]
            have HV := Lib.hid Hv
            clear Hv hha hhb
            have i1 := I1.out
            have i2 := I2.out
            have tok : True := trivial
            go_enter Tryd.func82, Tryd.ntmps82
            go_wp2_with (first
              | (go_at_call 92; refine (D1.out _).mono ?_; rintro e w1 ⟨rfl, q1⟩)
              | (go_at_call 71; have _t := tok; refine (A1.out _).mono ?_; rintro e w2 ⟨rfl, q2⟩; clear tok _t)
              | (go_at_call 71; refine (B1.out _).mono ?_; rintro e w3 ⟨rfl, q3⟩))
            go_ret3
            exact ⟨by rw [HV.out]; rfl, (q1.trans q2).trans q3⟩
          · -- it may be hidden: go on
            have Hor : ha = true ∨ (ha = false ∧ hb = true) := by
              cases ha <;> cases hb <;> simp at hc ⊢
            have hcond : ¬ (15 < dh ∨ (hiddenN (16 * dh) = false ∧ hiddenN (16 * dh + 15) = false)) := by
              rw [hha, hhb]
              intro hx
              rcases hx with hx | hx
              · exact h5 hx
              · exact hc hx
            clear hha hhb
            match t, hl, hsz, hby with
            | [], hl, hsz, _ =>
              have Hv : escV [120, h] = .tuple #[.int .u8 0, .int .i64 3, .bool false] := by simp only [escV, esc, hdh]; rw [if_neg (by omega), if_neg (by omega), if_neg (by simp), if_neg hcond]; rfl
              have HV := Lib.hid Hv
              clear Hv hcond
              simp at hsz
              rcases Hor with rfl | ⟨rfl, rfl⟩
              · have i1 := I1.out
                have i2 := I2.out
                go_enter Tryd.func82, Tryd.ntmps82
                go_wp2_with (first
                  | (go_at_call 92; refine (D1.out _).mono ?_; rintro e w1 ⟨rfl, q1⟩)
                  | (go_at_call 71; refine (A1.out _).mono ?_; rintro e w2 ⟨rfl, q2⟩))
                go_ret3
                exact ⟨by rw [HV.out]; rfl, q1.trans q2⟩
              · have i1 := I1.out
                have i2 := I2.out
                have tok : True := trivial
                go_enter Tryd.func82, Tryd.ntmps82
                go_wp2_with (first
                  | (go_at_call 92; refine (D1.out _).mono ?_; rintro e w1 ⟨rfl, q1⟩)
                  | (go_at_call 71; have _t := tok; refine (A1.out _).mono ?_; rintro e w2 ⟨rfl, q2⟩; clear tok _t)
                  | (go_at_call 71; refine (B1.out _).mono ?_; rintro e w3 ⟨rfl, q3⟩))
                go_ret3
                exact ⟨by rw [HV.out]; rfl, (q1.trans q2).trans q3⟩
            | lo :: t, hl, hsz, hby =>
              have lo256 : lo < 256 := hby lo (by simp)
              have hge4 : ¬ s.size < 4 := by simp at hsz; omega
              have i3 := fun W => index_txt W 9 Tryd.underlying9 (s := s) (k := 3) (c := lo) (by rw [hl]; rfl) .i64 3 rfl
              have I3 := Lib.hid i3
              clear i3
              have hd' : digitN lo ≤ 16 := by unfold digitN; split <;> (try split) <;> omega
              have E1 := Lib.hid (fun W => digit_any lo lo256 W)
              obtain ⟨dl, hdl⟩ : ∃ dl, digitN lo = dl := ⟨_, rfl⟩
              rw [hdl] at hd' E1
              -- what is common to all: the calls up to the second digit
              by_cases h6 : 15 < dl
              · have Hv : escV (120 :: h :: lo :: t) = .tuple #[.int .u8 0, .int .i64 3, .bool false] := by simp only [escV, esc, hdh, hdl]; rw [if_neg (by omega), if_neg (by omega), if_neg (by simp), if_neg hcond, if_pos (Or.inl h6)]; rfl
                have HV := Lib.hid Hv
                clear Hv hcond
                have tok : True := trivial
                have tok2 : True := trivial
                rcases Hor with rfl | ⟨rfl, rfl⟩
                · have i1 := I1.out
                  have i2 := I2.out
                  have i3 := I3.out
                  go_enter Tryd.func82, Tryd.ntmps82
                  go_wp2_with (first
                    | (go_at_call 92; have _t := tok; refine (D1.out _).mono ?_; rintro e w1 ⟨rfl, q1⟩; clear tok _t)
                    | (go_at_call 92; refine (E1.out _).mono ?_; rintro e w4 ⟨rfl, q4⟩)
                    | (go_at_call 71; refine (A1.out _).mono ?_; rintro e w2 ⟨rfl, q2⟩))
                  go_ret3
                  exact ⟨by rw [HV.out]; rfl, (q1.trans q2).trans q4⟩
                · have i1 := I1.out
                  have i2 := I2.out
                  have i3 := I3.out
                  go_enter Tryd.func82, Tryd.ntmps82
                  go_wp2_with (first
                    | (go_at_call 92; have _t := tok; refine (D1.out _).mono ?_; rintro e w1 ⟨rfl, q1⟩; clear tok _t)
                    | (go_at_call 92; refine (E1.out _).mono ?_; rintro e w4 ⟨rfl, q4⟩)
                    | (go_at_call 71; have _t := tok2; refine (A1.out _).mono ?_; rintro e w2 ⟨rfl, q2⟩; clear tok2 _t)
                    | (go_at_call 71; refine (B1.out _).mono ?_; rintro e w3 ⟨rfl, q3⟩))
                  go_ret3
                  exact ⟨by rw [HV.out]; rfl, ((q1.trans q2).trans q3).trans q4⟩
              · obtain ⟨hf, hhf⟩ : ∃ hf, hiddenN (16 * dh + dl) = hf := ⟨_, rfl⟩
                have F1 := Lib.hid (fun W => hidden_at ((dh : Int) * 16 + (dl : Int)) (16 * dh + dl) hf (by omega) hhf W)
                have o2 : bits .or .u8 ((dh : Int) * 16) (dl : Int) = (dh : Int) * 16 + (dl : Int) := bits_or dh dl (by omega) (by omega)
                have dlt2 : decide (15 < (dl : Int)) = false := by simp; omega
                have Hv : escV (120 :: h :: lo :: t) = (if hf then .tuple #[.int .u8 ((dh : Int) * 16 + (dl : Int)), .int .i64 4, .bool true] else .tuple #[.int .u8 0, .int .i64 3, .bool false]) := by
                  simp only [escV, esc, hdh, hdl]
                  rw [if_neg (by omega), if_neg (by omega), if_neg (by simp), if_neg hcond, hhf]
                  cases hf
                  · rw [if_pos (Or.inr rfl)]; rfl
                  · rw [if_neg (by simp; omega)]
                    have : ((16 * dh + dl : Nat) : Int) = (dh : Int) * 16 + (dl : Int) := by omega
                    simp only [this]; rfl
                have HV := Lib.hid Hv
                clear Hv hcond hhf
                have tok : True := trivial
                have tok2 : True := trivial
                have tok3 : True := trivial
                cases hf
                all_goals rcases Hor with rfl | ⟨rfl, rfl⟩
                all_goals
                  have i1 := I1.out
                  have i2 := I2.out
                  have i3 := I3.out
                  go_enter Tryd.func82, Tryd.ntmps82
                  go_wp2_with (first
                    | (go_at_call 92; have _t := tok; refine (D1.out _).mono ?_; rintro e w1 ⟨rfl, q1⟩; clear tok _t)
                    | (go_at_call 92; refine (E1.out _).mono ?_; rintro e w4 ⟨rfl, q4⟩)
                    | (go_at_call 71; have _t := tok2; refine (A1.out _).mono ?_; rintro e w2 ⟨rfl, q2⟩; clear tok2 _t)
                    | (go_at_call 71; have _t := q4; refine (F1.out _).mono ?_; rintro e w5 ⟨rfl, q5⟩)
                    | (go_at_call 71; refine (B1.out _).mono ?_; rintro e w3 ⟨rfl, q3⟩))
                  go_ret3
                  first
                    | exact ⟨by rw [HV.out]; rfl, ((q1.trans q2).trans q4).trans q5⟩
                    | exact ⟨by rw [HV.out]; rfl, (((q1.trans q2).trans q3).trans q4).trans q5⟩
    · have hv : escV (d :: t) = .tuple #[.int .u8 0, .int .i64 1, .bool false] := by simp [escV, esc, h1, h2, h3, h4]
      have HV := Lib.hid hv
      clear hv
      have e4 : ((d : Int) == 120) = false := by simp; omega
      have i1 := I1.out
      go_enter Tryd.func82, Tryd.ntmps82
      go_wp2_with fail
      go_ret3
      exact ⟨by rw [HV.out]; rfl, Quiet.refl _⟩
end Go.Proofs.YtdkoafmgenbkbaaDoor
