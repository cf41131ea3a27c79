/- Taken over out of another chapter (its text ETwo): what is needed here. Taken over out of another chapter (its text EThree): what is needed here. Taken over out of another chapter (its text EScan): what is needed here. Taken over out of another chapter (its text CpN): what is needed here. Taken over out of another chapter (its text EExpPlain): what is needed here. Taken over out of another chapter (its text EPar0): what is needed here. Taken over out of another chapter (its text EPTree): what is needed here. Taken over out of another chapter (its text EPar1): what is needed here. Taken over out of another chapter (its text ESign): what is needed here. Taken over out of another chapter (its text ERow): what is needed here. Taken over out of another chapter (its text ELev): what is needed here. Taken over out of another chapter (its text EWs): what is needed here. Taken over out of another chapter (its text EFlat0): what is needed here. -/
import Derived.Test.YtidkbodmiegbkaaGreatDoorProg
import Derived.Test.YtidkbodmiegbkaaGreatDoorShelf
import Derived.Test.YtidkbodmiegbkaaGreatDoorLM1
import Derived.Below
import Derived.BigQuiet
import Derived.Deep.AppendLies
import Derived.Deep.Draws
import Derived.Deep.Fields
import Derived.Deep.QuietTactic
import Derived.Deep.RegionHeld3
import Derived.Deep.Slices
import Derived.Laws.BytesString
import Derived.Laws.IdiomStrings
import Derived.Laws.Rows
import Derived.Lib.AppendStr
import Derived.Lib.Builder
import Derived.Lib.FrozenHead
import Derived.Lib.Hide
import Derived.Lib.ItoaNum
import Derived.Lib.ParseIntB
import Derived.Maps.AppendAt
import Derived.Outline
import Derived.OwnWalk
import Derived.ProofKit
import Derived.WalkKit
import Derived.WalkMore
import Derived.WalkSpells
import Derived.BigRegion
import Derived.Deep.CutRange
import Derived.Deep.LoopGhost
import Derived.Deep.RegionHeld2
import Derived.Deep.RegionLaw
import Derived.Defers
import Derived.IntWalk
import Derived.Laws.Cover1
import Derived.Laws.EntriesVeiled
import Derived.Laws.MakeOwn
import Derived.Laws.Pointers
import Derived.Lib.SliceRun
import Derived.Orders
import Derived.Recover
import Derived.RegionTactic
import Derived.StillTailTactics
import Derived.Tactics
import Derived.Tactics2
import Derived.WalkSmall
namespace Go.Proofs.YtidkbodmiegbkaaGreatDoor
set_option linter.unusedSimpArgs false
set_option linter.unusedVariables false
open Go.RowKit
set_option maxHeartbeats 4000000 in
theorem lex_number (s : ByteArray) (k0 : Nat) (hk0 : k0 ≤ s.size) (hs : s.size ≤ 4096) (R : Nat × Nat × Bool) (hR : numScan ((bs s).drop k0) 0 0 = R) (w : World) : Calls Tryz.prog 56 #[.string s, .int .i64 (k0 : Int)] w fun e w' => e = .returned (.tuple #[.int .i64 (R.1 : Int), .int .i64 ((k0 + R.2.1 : Nat) : Int), .bool R.2.2]) ∧ Quiet w w' := by
  obtain ⟨n, hn⟩ : ∃ n, s.size = n := ⟨_, rfl⟩
  have Hn := Lib.hid hn
  rw [hn] at hs hk0
  have hn' : (s.size : Int) = (n : Int) := by rw [hn]
  clear hn
  have HR := Lib.hid hR
  clear hR
  go_enter Tryz.func56, Tryz.ntmps56
  go_wp2_with fail
  go_loopw [7, 8] (fun nv i wr => ∃ (j a : Nat), k0 + j ≤ n ∧ i = .int .i64 ((k0 + j : Nat) : Int) ∧ nv = .int .i64 (a : Int) ∧ a ≤ 9223372036854775807 ∧ Hid (numScan ((bs s).drop (k0 + j)) j a = R) ∧ Quiet w wr) (fun _ i _ => n - (intOf i).toNat)
  case atStart => exact ⟨0, 0, by omega, by go_num, rfl, by omega, HR.out, Quiet.refl _⟩
  case round =>
    obtain ⟨j, a, hj, rfl, rfl, ha, hu, hq⟩ := hrel
    obtain ⟨k, hk⟩ : ∃ k, k0 + j = k := ⟨_, rfl⟩
    rw [hk] at hu hj ⊢
    have b1 : (0 : Int) ≤ (k : Int) := Int.natCast_nonneg _
    by_cases hlt : k < n
    · obtain ⟨c, hc, c256⟩ := get_bs (s := s) (k := k) (by rw [Hn.out]; exact hlt)
      have i1 := fun W => index_txt W 9 Tryz.underlying9 hc .i64 _ rfl
      have hdrop := drop_bs hc
      by_cases hd : 48 ≤ c ∧ c ≤ 57
      · have D := Lib.hid (fun W => lex_digit c true (by simp [figN]; omega) W)
        have hcase : (0 < j ∧ a = 0) ∨ (j = 0 ∧ (9223372036854775807 - (c - 48)) / 10 < a) ∨ (0 < j ∧ a ≠ 0 ∧ (9223372036854775807 - (c - 48)) / 10 < a) ∨ (¬ ((0 < j ∧ a = 0) ∨ (9223372036854775807 - (c - 48)) / 10 < a) ∧ j = 0) ∨ (¬ ((0 < j ∧ a = 0) ∨ (9223372036854775807 - (c - 48)) / 10 < a) ∧ 0 < j) := by omega
        have hbadv : ((0 < j ∧ a = 0) ∨ (9223372036854775807 - (c - 48)) / 10 < a) → R = (0, j, false) := fun h => by
          have := hu.out
          rw [hdrop, numScan, if_pos hd, if_pos h] at this
          exact this.symm
        have hgoodv : ¬ ((0 < j ∧ a = 0) ∨ (9223372036854775807 - (c - 48)) / 10 < a) → numScan ((bs s).drop (k + 1)) (j + 1) (10 * a + (c - 48)) = R := fun h => by
          have := hu.out
          rw [hdrop, numScan, if_pos hd, if_neg h] at this
          exact this
        have HBV := Lib.hid hbadv
        have HGV := Lib.hid hgoodv
        obtain ⟨hd1, hd2⟩ := hd
        clear hu hc hdrop hbadv hgoodv
        rcases hcase with ⟨x1, x2⟩ | ⟨x1, x2⟩ | ⟨x1, x3, x2⟩ | ⟨x2, x1⟩ | ⟨x2, x1⟩
        · have HV := Lib.hid (HBV.out (Or.inl ⟨x1, x2⟩))
          have f1 : decide ((k0 : Int) < (k : Int)) = true := by simp; omega
          subst x2
          clear HBV HGV
          go_wp2_with (go_at_call 55; refine (D.out _).mono ?_; rintro e w1 ⟨rfl, q1⟩)
          (try simp only [Exit.inBlock, Exit.then, Exit.noGoto_ret])
          go_ret3
          exact ⟨by rw [HV.out, ← hk]; rfl, hq.trans q1⟩
        · have HV := Lib.hid (HBV.out (Or.inr x2))
          have f1 : decide ((k0 : Int) < (k : Int)) = false := by simp; omega
          have f3 : decide ((9223372036854775807 - ((c : Int) - 48)) / 10 < (a : Int)) = true := by simp; omega
          clear x2
          clear HBV HGV
          go_wp2_with (go_at_call 55; refine (D.out _).mono ?_; rintro e w1 ⟨rfl, q1⟩)
          (try simp only [Exit.inBlock, Exit.then, Exit.noGoto_ret])
          go_ret3
          exact ⟨by rw [HV.out, ← hk]; rfl, hq.trans q1⟩
        · have HV := Lib.hid (HBV.out (Or.inr x2))
          have f1 : decide ((k0 : Int) < (k : Int)) = true := by simp; omega
          have f2 : ((a : Int) == 0) = false := by simp; omega
          have f3 : decide ((9223372036854775807 - ((c : Int) - 48)) / 10 < (a : Int)) = true := by simp; omega
          clear x2
          clear HBV HGV
          go_wp2_with (go_at_call 55; refine (D.out _).mono ?_; rintro e w1 ⟨rfl, q1⟩)
          (try simp only [Exit.inBlock, Exit.then, Exit.noGoto_ret])
          go_ret3
          exact ⟨by rw [HV.out, ← hk]; rfl, hq.trans q1⟩
        · have HV := Lib.hid (HGV.out x2)
          have f1 : decide ((k0 : Int) < (k : Int)) = false := by simp; omega
          have f3 : decide ((9223372036854775807 - ((c : Int) - 48)) / 10 < (a : Int)) = false := by simp; omega
          have f4 : 10 * a + (c - 48) ≤ 9223372036854775807 := by omega
          have f5 : 10 * (a : Int) + ((c : Int) - 48) ≤ 9223372036854775807 := by omega
          clear x2
          clear HBV HGV
          go_wp2_with (go_at_call 55; refine (D.out _).mono ?_; rintro e w1 ⟨rfl, q1⟩)
          go_roundw
          case rel => exact ⟨j + 1, 10 * a + (c - 48), by omega, by go_num, by go_num, f4, by rw [show k0 + (j + 1) = k + 1 by omega]; exact HV.out, hq.trans q1⟩
          case measure => simp [intOf]; omega
        · have HV := Lib.hid (HGV.out x2)
          have f1 : decide ((k0 : Int) < (k : Int)) = true := by simp; omega
          have f2 : ((a : Int) == 0) = false := by simp; omega
          have f3 : decide ((9223372036854775807 - ((c : Int) - 48)) / 10 < (a : Int)) = false := by simp; omega
          have f4 : 10 * a + (c - 48) ≤ 9223372036854775807 := by omega
          have f5 : 10 * (a : Int) + ((c : Int) - 48) ≤ 9223372036854775807 := by omega
          clear x2
          clear HBV HGV
          go_wp2_with (go_at_call 55; refine (D.out _).mono ?_; rintro e w1 ⟨rfl, q1⟩)
          go_roundw
          case rel => exact ⟨j + 1, 10 * a + (c - 48), by omega, by go_num, by go_num, f4, by rw [show k0 + (j + 1) = k + 1 by omega]; exact HV.out, hq.trans q1⟩
          case measure => simp [intOf]; omega
      · have hd0 : figN c = false := by simp [figN]; omega
        have D := Lib.hid (fun W => lex_digit c false hd0 W)
        have e0 : ((k : Int) == (n : Int)) = false := by simp; omega
        have hv : R = (a, j, !furtherN c) := by
          have := hu.out
          rw [hdrop, numScan, if_neg hd] at this
          exact this.symm
        have HV := Lib.hid hv
        obtain ⟨b, hb⟩ : ∃ b, furtherN c = b := ⟨_, rfl⟩
        have F := Lib.hid (fun W => lex_further c b hb W)
        rw [hb] at HV
        clear hu hc hdrop hd hd0 hv hb
        go_wp2_with (first | (go_at_call 55; refine (D.out _).mono ?_; rintro e w1 ⟨rfl, q1⟩) | (go_at_call 53; refine (F.out _).mono ?_; rintro e w2 ⟨rfl, q2⟩))
        go_ret3
        exact ⟨by rw [HV.out, ← hk]; rfl, (hq.trans q1).trans q2⟩
    · have hkn : k = n := by omega
      have e0 : ((k : Int) == (n : Int)) = true := by simp; omega
      have hdec : decide (k < n) = false := by simp; omega
      have hdec2 : decide ((k : Int) < (n : Int)) = false := by simp; omega
      have hv : R = (a, j, true) := by
        have := hu.out
        rw [List.drop_of_length_le (by rw [bs_len, Hn.out]; omega)] at this
        exact this.symm
      have HV := Lib.hid hv
      clear hu hv hkn
      go_wp2_with fail
      go_ret3
      exact ⟨by rw [HV.out, ← hk]; rfl, hq⟩
theorem prefix_take : ∀ (m r : List Nat), m.isPrefixOf r = decide (m.length ≤ r.length ∧ r.take m.length = m)
  | [], r => by simp
  | a :: m, [] => by simp
  | a :: m, b :: r => by
    rw [List.isPrefixOf, prefix_take m r, Bool.eq_iff_iff]
    simp
    constructor
    · rintro ⟨rfl, h1, h2⟩; exact ⟨h1, rfl, h2⟩
    · rintro ⟨h1, rfl, h2⟩; exact ⟨rfl, h1, h2⟩
theorem lex_prefix (s t : ByteArray) (hs : s.size ≤ maxLen) (ht : t.size ≤ maxLen) (b : Bool) (hb : (bs t).isPrefixOf (bs s) = b) (w : World) : Calls Tryz.prog 76 #[.string s, .string t] w fun e w' => e = .returned (.bool b) ∧ Quiet w w' := by
  have key : ∀ W, Calls Tryz.prog 87 #[.string s, .string t] W fun e w' => e = .returned (.bool b) ∧ Quiet W w' := by
    intro W
    unfold maxLen at hs ht
    rw [prefix_take, bs_len, bs_len] at hb
    obtain ⟨n, hn⟩ : ∃ n, s.size = n := ⟨_, rfl⟩
    obtain ⟨m, hm⟩ : ∃ m, t.size = m := ⟨_, rfl⟩
    have hn' : (s.size : Int) = (n : Int) := by rw [hn]
    have hm' : (t.size : Int) = (m : Int) := by rw [hm]
    rw [hn] at hs hb
    rw [hm] at ht hb
    have Hn := Lib.hid hn
    have Hm := Lib.hid hm
    clear hn hm
    by_cases h1 : m ≤ n
    · have he : bs (s.extract 0 m) = (bs s).take m := by rw [bs_extract]; simp
      by_cases h2 : (bs s).take m = bs t
      · have hbt : b = true := by rw [← hb]; exact decide_eq_true ⟨h1, h2⟩
        have hx : s.extract 0 m = t := bs_inj (he.trans h2)
        subst hbt
        clear hb h2 he
        go_enter Tryz.func87, Tryz.ntmps87
        go_wp2_with fail
        go_ret
        exact ⟨by first | rfl | (rw [show (0 : Int).toNat = 0 from rfl]; simp [hx]) | simp [hx], Quiet.refl _⟩
      · have hbt : b = false := by rw [← hb]; exact decide_eq_false (fun h => h2 h.2)
        have hx : ¬ (s.extract 0 m).toList = t.toList := fun e => h2 (by rw [← he, (toList_inj _ _).1 e])
        have hxb : ((s.extract 0 m).toList == t.toList) = false := by rw [beq_eq_false_iff_ne]; exact hx
        subst hbt
        clear hb h2 he
        go_enter Tryz.func87, Tryz.ntmps87
        go_wp2_with fail
        go_ret
        exact ⟨by first | rfl | simp [hx], Quiet.refl _⟩
    · have hbt : b = false := by rw [← hb]; exact decide_eq_false (fun h => h1 h.1)
      have hdec : decide ((m : Int) ≤ (n : Int)) = false := by simp; omega
      subst hbt
      clear hb
      go_enter Tryz.func87, Tryz.ntmps87
      go_wp2_with fail
      go_ret
      exact ⟨rfl, Quiet.refl _⟩
  have K := Lib.hid key
  clear key hb
  go_enter Tryz.func76, Tryz.ntmps76
  go_wp2_with (go_at_call 87; refine (K.out _).mono ?_; rintro e w1 ⟨rfl, q1⟩)
  go_ret
  exact ⟨rfl, q1⟩
end Go.Proofs.YtidkbodmiegbkaaGreatDoor
namespace Go.Proofs.YtidkbodmiegbkaaGreatDoor
set_option linter.unusedSimpArgs false
set_option linter.unusedVariables false
open Go.RowKit
def marksV : Array Value := (marksL.map fun m => Value.string (txt m)).toArray
/-- the variable of the marks -/
def Marks (w : World) : Prop := w.var? Tryz.prog "topiary/lex.marks" = some marksV
theorem lex_var_keep {P : Program} {w w' : World} {n : String} {cs : Array Value} (h : w.var? P n = some cs) (hb : Below w.heap.size w w') : w'.var? P n = some cs := by
  unfold World.var? at h ⊢
  cases hg : P.globalNamed n with
  | none => rw [hg] at h; simp at h
  | some g =>
    rw [hg] at h
    simp only [Option.bind_some] at h ⊢
    have hlt : g < w.heap.size := by
      rcases Nat.lt_or_ge g w.heap.size with hlt | hge
      · exact hlt
      · rw [Array.getElem?_eq_none hge] at h; cases h
    rw [hb.block g hlt]
    exact h
theorem Marks.below {w w' : World} (h : Marks w) (hb : Below w.heap.size w w') : Marks w' := lex_var_keep h hb
theorem Marks.drewN {w : World} (h : Marks w) (n : Nat) : Marks (w.drewN n) := h
theorem marks_block {w : World} (h : Marks w) : ∃ t fr, w.heap[1]? = some (.cells marksV t fr) := by
  unfold Marks World.var? at h
  rw [show Tryz.prog.globalNamed "topiary/lex.marks" = some 1 by kernel_rfl] at h
  simp only [Option.bind_some] at h
  cases hh : w.heap[1]? with
  | none => rw [hh] at h; cases h
  | some o =>
    rw [hh] at h
    cases o with
    | cells cs t fr => simp only [Option.some.injEq] at h; subst h; exact ⟨t, fr, rfl⟩
    | _ => cases h
theorem marks_index (k : Nat) (hk : k < 16) (W : World) : ∃ m, marksL[k]? = some m ∧ m ≠ [] ∧ m.length ≤ 2 ∧ (Instr.index 130 (.agg marksV) (.int .i64 (k : Int))).run Tryz.prog W = .ok (.string (txt m)) W := by
  rcases k with _ | _ | _ | _ | _ | _ | _ | _ | _ | _ | _ | _ | _ | _ | _ | _ | k
  all_goals first | omega | exact ⟨_, rfl, by simp, by simp, by kernel_rfl⟩
theorem find_drop {p : List Nat → Bool} {l : List (List Nat)} {k : Nat} {m : List Nat} (h : l[k]? = some m) : (l.drop k).find? p = if p m = true then some m else (l.drop (k + 1)).find? p := by
  have hk := (List.getElem?_eq_some_iff.1 h).1
  rw [List.drop_eq_getElem_cons hk, (List.getElem?_eq_some_iff.1 h).2, List.find?_cons]
  cases p m <;> rfl
set_option maxRecDepth 100000 in
set_option maxHeartbeats 4000000 in
theorem lex_mark (s : ByteArray) (c0 : Nat) (hc0 : (bs s)[0]? = some c0) (hs : s.size ≤ 4096) (R : List Nat × Nat) (hR : markN (bs s) = R) (w : World) (hm : Marks w) : Calls Tryz.prog 59 #[.string s] w fun e w' => e = .returned (.tuple #[.string (txt R.1), .int .i64 (R.2 : Int)]) ∧ Quiet w w' := by
  obtain ⟨tt, fr, hg1⟩ := marks_block hm
  have hF : (match (marksL.drop 0).find? (fun m => m.isPrefixOf (bs s)) with | some m => (m, m.length) | none => if (bs s).head? = some 33 ∨ (bs s).head? = some 61 then ([], 1) else ([], 0)) = R := hR
  have HF := Lib.hid hF
  have i0 := fun W => index_txt W 9 Tryz.underlying9 hc0 .i64 0 rfl
  have hhead : (bs s).head? = some c0 := by rw [List.head?_eq_getElem?]; exact hc0
  have Hhead := Lib.hid hhead
  have hpos : 0 < s.size := by rw [← bs_len]; exact (List.getElem?_eq_some_iff.1 hc0).1
  clear hm hF hR hc0 hhead
  go_enter Tryz.func59, Tryz.ntmps59
  go_wp2_with (refine wpList_load_row rfl 130 _ rfl 1 rfl tt _ fr _ hg1 Tryz.underlying130 rfl (by kernel_rfl) ?_)
  go_loopw [7] (fun i wr => ∃ k : Nat, k ≤ 16 ∧ i = .int .i64 (k : Int) ∧ Hid ((match (marksL.drop k).find? (fun m => m.isPrefixOf (bs s)) with | some m => (m, m.length) | none => if (bs s).head? = some 33 ∨ (bs s).head? = some 61 then ([], 1) else ([], 0)) = R) ∧ Quiet w wr) (fun i _ => 16 - (intOf i).toNat)
  case atStart => exact ⟨0, by omega, by go_num, HF.out, Quiet.refl _⟩
  case round =>
    obtain ⟨k, hk, rfl, hu, hq⟩ := hrel
    have b1 : (0 : Int) ≤ (k : Int) := Int.natCast_nonneg _
    by_cases hlt : k < 16
    · obtain ⟨m, hm, hne, hml, _⟩ := marks_index k hlt wr
      have hidx : ∀ W, (Instr.index 130 (.agg marksV) (.int .i64 (k : Int))).run Tryz.prog W = .ok (.string (txt m)) W := fun W => by
        obtain ⟨m', hm', _, _, h⟩ := marks_index k hlt W
        rw [hm] at hm'
        injection hm' with hm'
        subst hm'
        exact h
      have hby : Bytes m := by
        have : ∀ m ∈ marksL, ∀ n ∈ m, n < 256 := by decide
        exact this m (List.mem_iff_getElem?.2 ⟨k, hm⟩)
      have hsz : (txt m).size = m.length := txt_size m
      have hszi : ((txt m).size : Int) = (m.length : Int) := by rw [hsz]
      obtain ⟨b, hb⟩ : ∃ b, m.isPrefixOf (bs s) = b := ⟨_, rfl⟩
      have PX := Lib.hid (fun W => lex_prefix s (txt m) (by unfold maxLen; omega) (by rw [hsz]; unfold maxLen; omega) b (by rw [bs_txt hby]; exact hb) W)
      have hf := find_drop (p := fun m => m.isPrefixOf (bs s)) hm
      rw [hb] at hf
      cases b with
      | true =>
        have hv := hu.out
        rw [hf, if_pos rfl] at hv
        have HV := Lib.hid hv
        clear hu hv hm hne hby hb hf
        go_wp2_with (go_at_call 76; refine (PX.out _).mono ?_; rintro e w1 ⟨rfl, q1⟩)
        go_ret2
        exact ⟨by rw [← HV.out]; rfl, hq.trans q1⟩
      | false =>
        have hv := hu.out
        rw [hf, if_neg (by simp)] at hv
        have HV := Lib.hid hv
        clear hu hv hm hne hby hb hf
        go_wp2_with (go_at_call 76; refine (PX.out _).mono ?_; rintro e w1 ⟨rfl, q1⟩)
        go_roundw
        case rel => exact ⟨k + 1, by omega, by go_num, HV.out, hq.trans q1⟩
        case measure => simp [intOf]; omega
    · have hk16 : k = 16 := by omega
      subst hk16
      have hv := hu.out
      rw [show (marksL.drop 16) = [] from rfl, List.find?_nil, Hhead.out] at hv
      have hdec : decide (((16 : Nat) : Int) < 16) = false := by decide
      clear hu
      by_cases h33 : c0 = 33
      · subst h33
        have HV := Lib.hid hv
        clear hv
        go_wp2_with fail
        go_ret2
        exact ⟨by rw [← HV.out]; rfl, hq⟩
      · have e1 : ((c0 : Int) == 33) = false := by simp; omega
        by_cases h61 : c0 = 61
        · subst h61
          have HV := Lib.hid hv
          clear hv
          go_wp2_with fail
          go_ret2
          exact ⟨by rw [← HV.out]; rfl, hq⟩
        · have e2 : ((c0 : Int) == 61) = false := by simp; omega
          rw [if_neg (by simp; omega)] at hv
          have HV := Lib.hid hv
          clear hv
          go_wp2_with fail
          go_ret2
          exact ⟨by rw [← HV.out]; rfl, hq⟩
theorem Quiet.cell {w w' : World} (h : Quiet w w') {a : Addr} {v : Value} (hc : w.cell? a = some v) : w'.cell? a = some v := by
  obtain ⟨n, rfl⟩ := h
  exact hc
theorem takeWhile_run {p : Nat → Bool} : ∀ (r : List Nat) (j : Nat), j ≤ r.length → (∀ i, i < j → ∃ c, r[i]? = some c ∧ p c = true) → (j = r.length ∨ ∃ c, r[j]? = some c ∧ p c = false) → r.takeWhile p = r.take j
  | [], j, h, _, _ => by simp
  | a :: r, 0, _, _, h => by
    rcases h with h | ⟨c, h, hp⟩
    · simp at h
    · simp at h; subst h; rw [List.takeWhile_cons, if_neg (by rw [hp]; simp), List.take_zero]
  | a :: r, j + 1, h, h1, h2 => by
    obtain ⟨c, hc, hp⟩ := h1 0 (by omega)
    simp at hc
    subst hc
    rw [List.takeWhile_cons, if_pos hp, List.take_succ_cons, takeWhile_run r j (by simpa using h) (fun i hi => by simpa using h1 (i + 1) (by omega)) (by simpa using h2)]
set_option maxHeartbeats 4000000 in
theorem lex_run (s : ByteArray) (k0 : Nat) (hk0 : k0 ≤ s.size) (hs : s.size ≤ 4096) (w : World) (g0 g1 : Nat) (h1 : Blk w g0 9 #[.string s]) (h2 : Blk w g1 3 #[.int .i64 (k0 : Int)]) : Calls Tryz.prog 52 #[.pointer (some ⟨g1, 0, none⟩), .pointer (some ⟨g0, 0, none⟩)] w fun e w' => e = .returned (.string (txt (((bs s).drop k0).takeWhile furtherN))) ∧ Quiet w w' := by
  obtain ⟨n, hn⟩ : ∃ n, s.size = n := ⟨_, rfl⟩
  have Hn := Lib.hid hn
  rw [hn] at hs hk0
  have hn' : (s.size : Int) = (n : Int) := by rw [hn]
  clear hn
  have C1 := h1.cell (i := 0) rfl
  have C2 := h2.cell (i := 0) rfl
  clear h1 h2
  go_enter Tryz.func52, Tryz.ntmps52
  go_wp2_with fail
  go_loopw [3] (fun i wr => ∃ j : Nat, k0 + j ≤ n ∧ i = .int .i64 ((k0 + j : Nat) : Int) ∧ Hid (∀ i, i < j → ∃ c, ((bs s).drop k0)[i]? = some c ∧ furtherN c = true) ∧ Quiet w wr) (fun i _ => n - (intOf i).toNat)
  case atStart => exact ⟨0, by omega, by go_num, fun i hi => by omega, Quiet.refl _⟩
  case round =>
    obtain ⟨j, hj, rfl, hu, hq⟩ := hrel
    obtain ⟨k, hk⟩ : ∃ k, k0 + j = k := ⟨_, rfl⟩
    rw [hk] at hj ⊢
    have b1 : (0 : Int) ≤ (k : Int) := Int.natCast_nonneg _
    have b2 : (0 : Int) ≤ (k0 : Int) := Int.natCast_nonneg _
    have C1' := hq.cell C1
    have C2' := hq.cell C2
    by_cases hlt : k < n
    · obtain ⟨c, hc, c256⟩ := get_bs (s := s) (k := k) (by rw [Hn.out]; exact hlt)
      have i1 := fun W => index_txt W 9 Tryz.underlying9 hc .i64 _ rfl
      obtain ⟨b, hb⟩ : ∃ b, furtherN c = b := ⟨_, rfl⟩
      have F := Lib.hid (fun W => lex_further c b hb W)
      have hcj : ((bs s).drop k0)[j]? = some c := by rw [List.getElem?_drop, hk]; exact hc
      cases b with
      | true =>
        have hnew : ∀ i, i < j + 1 → ∃ c, ((bs s).drop k0)[i]? = some c ∧ furtherN c = true := fun i hi => by
          by_cases e : i = j
          · subst e; exact ⟨c, hcj, hb⟩
          · exact hu.out i (by omega)
        have HN := Lib.hid hnew
        clear hnew hu hc hcj hb
        go_wp2_with (go_at_call 53; refine (F.out _).mono ?_; rintro e w1 ⟨rfl, q1⟩)
        go_roundw
        case rel => exact ⟨j + 1, by omega, by go_num, HN.out, hq.trans q1⟩
        case measure => simp [intOf]; omega
      | false =>
        have hv := takeWhile_run (p := furtherN) ((bs s).drop k0) j (by rw [List.length_drop, bs_len, Hn.out]; omega) hu.out (Or.inr ⟨c, hcj, hb⟩)
        have hx : s.extract k0 k = txt (((bs s).drop k0).takeWhile furtherN) := by
          apply bs_inj
          rw [bs_txt (fun x hx => bs_bytes s x (List.mem_of_mem_drop ((List.takeWhile_sublist _).subset hx))), hv, bs_extract, List.drop_take, show k - k0 = j by omega]
        have HX := Lib.hid hx
        clear hu hc hcj hb hv hx
        go_wp2_with (go_at_call 53; refine (F.out _).mono ?_; rintro e w1 ⟨rfl, q1⟩; have C1'' := q1.cell C1'; have C2'' := q1.cell C2')
        go_ret
        exact ⟨by rw [← HX.out]; rfl, hq.trans q1⟩
    · have hdec : decide (k < n) = false := by simp; omega
      have hdec2 : decide ((k : Int) < (n : Int)) = false := by simp; omega
      have hv := takeWhile_run (p := furtherN) ((bs s).drop k0) j (by rw [List.length_drop, bs_len, Hn.out]; omega) hu.out (Or.inl (by rw [List.length_drop, bs_len, Hn.out]; omega))
      have hx : s.extract k0 k = txt (((bs s).drop k0).takeWhile furtherN) := by
        apply bs_inj
        rw [bs_txt (fun x hx => bs_bytes s x (List.mem_of_mem_drop ((List.takeWhile_sublist _).subset hx))), hv, bs_extract, List.drop_take, show k - k0 = j by omega]
      have HX := Lib.hid hx
      clear hu hv hx
      go_wp2_with fail
      go_ret
      exact ⟨by rw [← HX.out]; rfl, hq⟩
end Go.Proofs.YtidkbodmiegbkaaGreatDoor
namespace Go.Proofs.YtidkbodmiegbkaaGreatDoor
set_option linter.unusedSimpArgs false
set_option linter.unusedVariables false
open Go.RowKit
theorem unq_len : ∀ (f i : Nat) (l o s : List Nat) (k e : Nat), unq l f i o = (s, k, e) → e = 0 → Bytes l → s.length + i ≤ o.length + k
  | 0, i, l, o, s, k, e, h, he, _ => by simp [unq] at h; omega
  | f + 1, i, l, o, s, k, e, h, he, hl => by
    rw [unq] at h
    split at h
    · rename_i hi
      simp at h
      obtain ⟨rfl, rfl, _⟩ := h
      omega
    · rename_i hi
      split at h
      · rename_i c n m hone
        have hd : Bytes (l.drop i) := fun x hx => hl x (List.mem_of_mem_drop hx)
        obtain ⟨c1, c2, _⟩ := one_some hd (by rw [List.head?_drop]; exact hi) hone
        have := (form_len c).1
        have := unq_len f _ l _ s k e h he hl
        simp at this
        omega
      · simp at h; omega
theorem step_len8 {r : List Nat} {k n : Nat} {s : List Nat} {v : Int} (h : stepP r = (some (k, s, v), n)) : s.length ≤ r.length := by
  rw [← step_same] at h
  unfold stepR at h
  generalize lenFrom r r.length 0 = m at h
  have hm : (r.take m).length ≤ r.length := by rw [List.length_take]; omega
  cases hw : wholeN (r.take m) with
  | none => rw [hw] at h; simp at h
  | some t =>
    obtain ⟨k', s', v'⟩ := t
    rw [hw] at h
    simp only at h
    split at h
    · simp at h
    · simp only [Prod.mk.injEq, Option.some.injEq] at h
      obtain ⟨⟨rfl, rfl, rfl⟩, rfl⟩ := h
      unfold wholeN at hw
      split at hw
      · simp only [Option.some.injEq, Prod.mk.injEq] at hw
        obtain ⟨_, rfl, _⟩ := hw
        simp
      · split at hw
        · simp only [Option.some.injEq, Prod.mk.injEq] at hw
          obtain ⟨_, rfl, _⟩ := hw
          exact hm
        · split at hw
          · simp only [Option.some.injEq, Prod.mk.injEq] at hw
            obtain ⟨_, rfl, _⟩ := hw
            exact hm
          · split at hw
            · simp only [Option.some.injEq, Prod.mk.injEq] at hw
              obtain ⟨_, rfl, _⟩ := hw
              exact hm
            · cases hw
def Tok.cells (t : Tok) : List Value := [.int .i64 t.kind, .string (txt t.text), .int .i64 t.num, .int .i64 t.place]
def Tok.ok (t : Tok) : Prop := Bytes t.text ∧ t.text.length ≤ maxLen ∧ (Lit.int .i64 t.kind).wf = true ∧ (Lit.int .i64 t.num).wf = true ∧ (Lit.int .i64 t.place).wf = true
def Tok.Is (x : List Value) (t : Tok) : Prop := x = t.cells ∧ t.ok
theorem Tok.Is.one (x : List Value) (t : Tok) (h : Tok.Is x t) : ∀ u ∈ x, u.oneCell' = true := by
  intro u hu
  rw [h.1] at hu
  simp [Tok.cells] at hu
  rcases hu with rfl | rfl | rfl | rfl <;> rfl
theorem info_tok : (Tryz.prog.info? 82).map (fun i => (i.zero, i.size, i.bytes)) = some (some (.agg #[.int .i64 0, .string .empty, .int .i64 0, .int .i64 0]), 4, 40) := by kernel_rfl
theorem wf_in {v : Int} (h1 : -9223372036854775808 ≤ v) (h2 : v ≤ 9223372036854775807) : (Lit.int .i64 v).wf = true := by
  simp [Lit.wf, IntKind.min, IntKind.max, IntKind.signed, IntKind.bits]
  omega
theorem Tok.mk_ok {k i : Nat} {s : List Nat} {v : Int} (h1 : Bytes s) (h2 : s.length ≤ 4096) (h3 : k < 6) (h4 : i ≤ 4096) (h5 : -9223372036854775808 ≤ v) (h6 : v ≤ 9223372036854775807) : Tok.ok ⟨k, s, v, i⟩ :=
  ⟨h1, by show s.length ≤ maxLen; unfold maxLen; omega, wf_in (by show (-9223372036854775808 : Int) ≤ (k : Int); omega) (by show (k : Int) ≤ 9223372036854775807; omega), wf_in h5 h6, wf_in (by show (-9223372036854775808 : Int) ≤ (i : Int); omega) (by show (i : Int) ≤ 9223372036854775807; omega)⟩
/-- what Scan answers -/
def ScanIs (w : World) (R : List Tok × Nat × Nat) (e : Ending) (w' : World) : Prop :=
  ∃ (a : Option Addr) (n c : Nat), e = .returned (.tuple #[.slice a n c, .int .i64 (R.2.1 : Int), .int .i64 (R.2.2 : Int)]) ∧ Own1 w' w.heap.size 82 4 Tok.Is (.slice a n c) R.1 ∧ Below w.heap.size w w'
theorem ScanIs.no {w w' : World} {i r : Nat} {e : Ending} (he : e = .returned (.tuple #[.slice none 0 0, .int .i64 (i : Int), .int .i64 (r : Int)])) (hb : Below w.heap.size w w') {R : List Tok × Nat × Nat} (hR : R = ([], i, r)) : ScanIs w R e w' := by
  subst hR
  exact ⟨Option.none, 0, 0, he, ⟨[], World.ownsRow_nil _ _ _ _, FlatR.nil_⟩, hb⟩
def atCell (w : World) (g : Nat) : Nat := match w.cell? ⟨g, 0, none⟩ with
  | some (.int _ i) => i.toNat
  | _ => 0
theorem atCell_of {w : World} {g t : Nat} {k : Nat} (h : Blk w g t #[.int .i64 (k : Int)]) : atCell w g = k := by
  unfold atCell
  rw [h.cell (i := 0) rfl]
  exact Int.toNat_natCast k
/-- the scanner's state: the text, the place, the row -/
def ScanSt (w : World) (s : ByteArray) (k : Nat) (v : Value) (toks : List Tok) (wr : World) : Prop :=
  Blk wr w.heap.size 9 #[.string s] ∧ Blk wr (w.heap.size + 1) 3 #[.int .i64 (k : Int)] ∧ Own1 wr (w.heap.size + 1 + 1) 82 4 Tok.Is v toks ∧ Below w.heap.size w wr
theorem ScanSt.keep {w : World} {s : ByteArray} {k : Nat} {v : Value} {toks : List Tok} {wr W : World} (h : ScanSt w s k v toks wr) (hb : Below wr.heap.size wr W) : ScanSt w s k v toks W :=
  ⟨h.1.below hb h.1.lt, h.2.1.below hb h.2.1.lt, h.2.2.1.below hb (Nat.le_refl _), h.2.2.2.trans (hb.mono (Nat.le_of_lt h.1.lt))⟩
theorem ScanSt.at_ {w : World} {s : ByteArray} {k : Nat} {v : Value} {toks : List Tok} {wr : World} (h : ScanSt w s k v toks wr) (k' : Nat) {u : Value} (hu : u = .int .i64 (k' : Int)) : ScanSt w s k' v toks (wr.setCell ⟨w.heap.size + 1, 0, none⟩ u) := by
  subst hu
  exact ⟨h.1.far (by simp) _, h.2.1.set_ 0 _, h.2.2.1.setFar (by show w.heap.size + 1 < _; omega) _, h.2.2.2.setCell (by show w.heap.size ≤ w.heap.size + 1; omega) _⟩
theorem ScanSt.grown {w : World} {s : ByteArray} {k : Nat} {v v' : Value} {toks toks' : List Tok} {W w4 : World} (h : ScanSt w s k v toks W) (hg : W.grownBy w4 v.ownBlock) (h' : Own1 w4 (w.heap.size + 1 + 1) 82 4 Tok.Is v' toks') : ScanSt w s k v' toks' w4 := by
  have hb := h.2.2.1.block
  refine ⟨h.1.grown hg (fun e => ?_), h.2.1.grown hg (fun e => ?_), h', h.2.2.2.grown hg (Nat.le_trans (Nat.le_refl _) (by have := h.1.lt; omega)) (fun g hg' => by have := (hb g hg').1; omega)⟩
  · have := (hb _ e.symm).1; omega
  · have := (hb _ e.symm).1; omega
theorem ScanSt.cell_at {w : World} {s : ByteArray} {k : Nat} {v : Value} {toks : List Tok} {wr : World} (h : ScanSt w s k v toks wr) : atCell wr (w.heap.size + 1) = k := atCell_of h.2.1
/-- a token's box beside it -/
def TokSt (wr W : World) (cs : Array Value) : Prop := Below wr.heap.size wr W ∧ Blk W wr.heap.size 82 cs
theorem TokSt.new (wr : World) (cs : Array Value) : TokSt wr (wr.alloc (.cells cs 82)) cs := ⟨(Below.refl _ _).alloc (Nat.le_refl _) _, Blk.new wr _ _⟩
theorem TokSt.set {wr W : World} {cs : Array Value} (h : TokSt wr W cs) (i : Nat) (u : Value) : TokSt wr (W.setCell ⟨wr.heap.size, i, none⟩ u) (cs.setIfInBounds i u) := ⟨h.1.setCell (Nat.le_refl _) _, h.2.set_ i u⟩
theorem TokSt.call {wr W w1 : World} {cs : Array Value} (h : TokSt wr W cs) (hb : Below W.heap.size W w1) : TokSt wr w1 cs := ⟨h.1.trans (hb.mono h.1.size), h.2.below hb h.2.lt⟩
theorem TokSt.quiet {wr W w1 : World} {cs : Array Value} (h : TokSt wr W cs) (hb : Quiet W w1) : TokSt wr w1 cs := h.call (hb.below _)
theorem TokSt.alloc {wr W : World} {cs : Array Value} (h : TokSt wr W cs) (o : Obj) : TokSt wr (W.alloc o) cs := h.call ((Below.refl _ _).alloc (Nat.le_refl _) _)
theorem TokSt.drew {wr W : World} {cs : Array Value} (h : TokSt wr W cs) : TokSt wr W.drew cs := ⟨⟨h.1.os, h.1.tape, h.1.output, h.1.size, h.1.block⟩, h.2⟩
theorem SlR.drew_ {α : Type} {w : World} {B size : Nat} {R : List Value → α → Prop} {v : Value} {l : List α} (h : SlR w B size R v l) : SlR w.drew B size R v l := h
theorem TokSt.facts {w : World} {s : ByteArray} {k : Nat} {v : Value} {toks : List Tok} {wr W : World} {cs : Array Value} (h : TokSt wr W cs) (hs : ScanSt w s k v toks wr) :
    W.cell? ⟨w.heap.size, 0, none⟩ = some (.string s) ∧ W.cell? ⟨w.heap.size + 1, 0, none⟩ = some (.int .i64 (k : Int)) ∧ W.frozen? ⟨w.heap.size + 1, 0, none⟩ = false ∧ W.frozen? ⟨wr.heap.size, 0, none⟩ = false ∧ W.frozen? ⟨wr.heap.size, 1, none⟩ = false ∧ W.frozen? ⟨wr.heap.size, 2, none⟩ = false ∧ w.heap.size + 1 < W.heap.size ∧ wr.heap.size < W.heap.size :=
  have hk := hs.keep h.1
  ⟨hk.1.cell (i := 0) rfl, hk.2.1.cell (i := 0) rfl, hk.2.1.frozen 0, h.2.frozen 0, h.2.frozen 1, h.2.frozen 2, hk.2.1.lt, h.2.lt⟩
set_option maxHeartbeats 8000000 in
set_option maxRecDepth 100000 in
theorem scan_any (s : ByteArray) (hs : s.size ≤ maxLen) (w : World) (hm : Marks w) : Calls Tryz.prog 31 #[.string s] w (ScanIs w (scanN (bs s))) := by
  unfold maxLen at hs
  obtain ⟨j, hi, hz, hsz, hby⟩ := info_parts info_tok
  have I := Lib.hid (And.intro hi (And.intro hz (And.intro hsz hby)))
  clear hi hz hsz hby
  obtain ⟨n, hn⟩ : ∃ n, s.size = n := ⟨_, rfl⟩
  have hln : (bs s).length = n := by rw [bs_len, hn]
  rw [hn] at hs
  have hn' : (s.size : Int) = (n : Int) := by rw [hn]
  have Hn := Lib.hid (And.intro hn hln)
  have Hm := Lib.hid hm
  clear hm
  by_cases hbig : 4096 < n
  · have hv : scanN (bs s) = ([], 0, 3) := by unfold scanN; rw [hln, if_pos hbig]
    have HV := Lib.hid hv
    clear hv hln hn
    go_enter Tryz.func31, Tryz.ntmps31
    go_wp2_with fail
    go_ret3
    exact ScanIs.no rfl ((Below.refl _ _).alloc (Nat.le_refl _) _) HV.out
  obtain ⟨R, hR⟩ : ∃ R, scanT (bs s) (n + 1) 0 [] = R := ⟨_, rfl⟩
  have hv : scanN (bs s) = R := by unfold scanN; rw [hln, if_neg hbig, hR]
  have HR := Lib.hid (And.intro hv hR)
  have hsmall : n ≤ 4096 := by omega
  have hdbig : decide (4096 < (n : Int)) = false := by simp; omega
  clear hv hR hln hn
  go_enter Tryz.func31, Tryz.ntmps31
  go_wp2_with fail
  go_loopw [5] (fun out wr => ∃ (k f a : Nat) (oa : Option Addr) (on oc : Nat) (toks : List Tok), k ≤ n ∧ n < f + k ∧ a ≤ k ∧ out = .slice oa on oc ∧ Hid (scanT (bs s) f k toks = R) ∧ Hid (ScanSt w s k (.slice oa on oc) toks wr ∧ toks.length = a)) (fun _ wr => n - atCell wr (w.heap.size + 1))
  case atStart =>
    have hB0 : Blk (w.alloc (.cells #[.string s] 9)) w.heap.size 9 #[.string s] := Blk.new w _ _
    have hB1 := Blk.new_ (w := w.alloc (.cells #[.string s] 9)) (g := w.heap.size + 1) (by rw [World.size_alloc]) 3 #[.int .i64 0]
    exact ⟨0, n + 1, 0, none, 0, 0, [], by omega, by omega, by omega, rfl, HR.out.2, ⟨hB0.alloc _, hB1, ⟨[], World.ownsRow_nil _ _ _ _, FlatR.nil_⟩, ((Below.refl w.heap.size w).alloc (Nat.le_refl _) _).alloc (below2 (Nat.le_refl _)) _⟩, rfl⟩
  case round =>
    obtain ⟨k, f, a, oa, on, oc, toks, hk, hf, ha, rfl, hu, hB⟩ := hrel
    have b1 : (0 : Int) ≤ (k : Int) := Int.natCast_nonneg _
    have hC0 := hB.out.1.1.cell (i := 0) rfl
    have hC1 := hB.out.1.2.1.cell (i := 0) rfl
    have hF1 := hB.out.1.2.1.frozen 0
    have hlt0 : w.heap.size < wr.heap.size := hB.out.1.1.lt
    have hlt1 : w.heap.size + 1 < wr.heap.size := hB.out.1.2.1.lt
    have hat := hB.out.1.cell_at
    have Hat := Lib.hid hat
    clear hat
    by_cases hlt : k < n
    · obtain ⟨c, hc, c256⟩ := get_bs (s := s) (k := k) (by rw [Hn.out.1]; exact hlt)
      have i1 := fun W => index_txt W 9 Tryz.underlying9 hc .i64 _ rfl
      have hdrop := drop_bs hc
      have Hc := Lib.hid hc
      clear hc

      by_cases hb : c = 32
      · subst hb
        have hv := scan_blank hu.out (by omega) Hc.out (by omega)
        have HV := Lib.hid hv
        clear hv hu hdrop Hc
        go_wp2_with fail
        have ST := (hB.out.1.at_ (k + 1) (u := .int .i64 ((k : Int) + 1)) (by go_num)).keep ((Below.refl _ _).alloc (Nat.le_refl _) (.cells #[.int .i64 0, .string ⟨#[]⟩, .int .i64 0, .int .i64 (k : Int)] 82))
        go_roundw
        case rel => exact ⟨k + 1, f - 1, a, oa, on, oc, toks, by omega, by omega, by omega, rfl, HV.out, ST, hB.out.2⟩
        case measure => rw [Hat.out, ST.cell_at]; omega
      by_cases hb : c = 10
      · subst hb
        have hv := scan_blank hu.out (by omega) Hc.out (by omega)
        have HV := Lib.hid hv
        clear hv hu hdrop Hc
        go_wp2_with fail
        have ST := (hB.out.1.at_ (k + 1) (u := .int .i64 ((k : Int) + 1)) (by go_num)).keep ((Below.refl _ _).alloc (Nat.le_refl _) (.cells #[.int .i64 0, .string ⟨#[]⟩, .int .i64 0, .int .i64 (k : Int)] 82))
        go_roundw
        case rel => exact ⟨k + 1, f - 1, a, oa, on, oc, toks, by omega, by omega, by omega, rfl, HV.out, ST, hB.out.2⟩
        case measure => rw [Hat.out, ST.cell_at]; omega
      have c1 : ((c : Int) == 32) = false := by simp; omega
      have c2 : ((c : Int) == 10) = false := by simp; omega
      have hnb : ¬ (c = 32 ∨ c = 10) := by omega
      have hbz := hB.out.1.2.2.2.size

      by_cases h34 : c = 34
      · subst h34
        obtain ⟨Q, hQ⟩ : ∃ Q, quoteAt (bs s) k = Q := ⟨_, rfl⟩
        have UQ : Hid (∀ W, Calls Tryz.prog 54 #[.string s, .int .i64 (k : Int)] W fun e w' => e = .returned (.tuple #[.string (txt Q.1), .int .i64 (Q.2.1 : Int), .int .i64 (Q.2.2 : Int)]) ∧ Below W.heap.size W w') := Lib.hid (fun W => by
          have := unquote_any s (k : Int) (wf_in (by omega) (by omega)) (by rw [Hn.out.1]; omega) W
          rw [unquote_at Hc.out, hQ] at this
          exact this)
        obtain ⟨q1, q2, q3⟩ := Q
        by_cases hq3 : q3 = 0
        · subst hq3
          have hby : Bytes (bs s) := bs_bytes s
          obtain ⟨g1, g2, g3⟩ := unq_some _ _ _ _ _ _ hby bytes_nil hQ
          have g4 := unq_len _ _ _ _ _ _ _ hQ rfl hby
          rw [Hn.out.2] at g3
          simp only [List.length_nil] at g4
          have hv := scan_quote hu.out (by omega) Hc.out hQ
          have HV := Lib.hid hv
          have HT : Hid (Tok.Is [.int .i64 2, .string (txt q1), .int .i64 0, .int .i64 (k : Int)] ⟨((2 : Nat) : Int), q1, 0, (k : Int)⟩) := Lib.hid ⟨rfl, Tok.mk_ok (k := 2) g1 (by omega) (by omega) (by omega) (by omega) (by omega)⟩
          clear hv hu hdrop Hc hQ hby g1 g4
          go_wp2_with (first
            | (go_at_call 54
               refine (UQ.out _).mono ?_
               rintro e w1 ⟨rfl, qq⟩
               have T1 : Hid (TokSt wr w1 #[Value.int .i64 0, Value.string ⟨#[]⟩, Value.int .i64 0, Value.int .i64 (k : Int)]) := Lib.hid ((TokSt.new wr _).call qq)
               have t0 := T1.out.2.cell (i := 0) rfl
               have t1 := T1.out.2.cell (i := 1) rfl
               have t2 := T1.out.2.cell (i := 2) rfl
               have t3 := T1.out.2.cell (i := 3) rfl
               obtain ⟨d0, d1, d2, d3, d4, d5, d6, d7⟩ := T1.out.facts hB.out.1
               clear qq)
            | (at_builtin
               go_must (refine wpList_append_list rfl (.tmp 107) (.tmp 109) _ rfl (w.heap.size + 1 + 1) _ 82 j _ 4 40 Tryz.underlying65 I.out.1 I.out.2.1 I.out.2.2.1 I.out.2.2.2 rfl (by omega) (R := Tok.Is) (l := toks) (m := [⟨((2 : Nat) : Int), q1, 0, (k : Int)⟩]) (.slice oa on oc) rfl (by exact (hB.out.1.keep (((T1.out.set 0 (.int .i64 2)).set 1 (.string (txt q1))).alloc _).1).2.2.1) (some ⟨w1.heap.size, 0, none⟩) 1 1 rfl (by exact (SlR.new1 (by simp [World.setCell]) rfl HT.out)) (a + 1) (by rw [hB.out.2]) Tok.Is.one (by rw [hB.out.2]; unfold maxLen; omega) (by rw [hB.out.2]; omega) (by simp [World.setCell]; omega) ?_)
               intro xa xc w9 hown hgr
               have ST9 : Hid (ScanSt w s k (.slice xa (a + 1) xc) (toks ++ [⟨((2 : Nat) : Int), q1, 0, (k : Int)⟩]) w9) := Lib.hid ((hB.out.1.keep (((T1.out.set 0 (.int .i64 2)).set 1 (.string (txt q1))).alloc _).1).grown hgr hown)
               have e0 := ST9.out.2.1.cell (i := 0) rfl
               have e1 := ST9.out.2.1.frozen 0
               have e2 : w.heap.size + 1 < w9.heap.size := ST9.out.2.1.lt
               clear hown hgr d0 d1 d2 d3 d4 d5 d6 d7 t0 t1 t2 t3))
          have ST := ST9.out.at_ (q2) (u := .int .i64 ((q2 : Int))) (by rfl)
          go_roundw
          case rel => exact ⟨q2, f - 1, a + 1, xa, a + 1, xc, _, by omega, by omega, by omega, rfl, HV.out, ST, by simp [hB.out.2]⟩
          case measure => rw [Hat.out, ST.cell_at]; omega
        · have h10 : q3 = 10 := unq_err8 _ _ _ _ _ _ _ hQ hq3
          subst h10
          have hv := scan_quote_no hu.out (by omega) Hc.out hQ (by omega)
          have HV := Lib.hid hv
          clear hv hu hdrop Hc hQ hq3
          go_wp2_with (first
            | (go_at_call 54
               refine (UQ.out _).mono ?_
               rintro e w1 ⟨rfl, qq⟩
               have T1 : Hid (TokSt wr w1 #[Value.int .i64 0, Value.string ⟨#[]⟩, Value.int .i64 0, Value.int .i64 (k : Int)]) := Lib.hid ((TokSt.new wr _).call qq)
               have t0 := T1.out.2.cell (i := 0) rfl
               have t1 := T1.out.2.cell (i := 1) rfl
               have t2 := T1.out.2.cell (i := 2) rfl
               have t3 := T1.out.2.cell (i := 3) rfl
               obtain ⟨d0, d1, d2, d3, d4, d5, d6, d7⟩ := T1.out.facts hB.out.1
               clear qq))
          (try simp only [Exit.inBlock, Exit.then, Exit.noGoto_ret])
          go_ret3
          exact ScanIs.no (by first | rfl | (push_cast; rfl)) (hB.out.1.keep ((T1.out.set 0 (.int .i64 2)).set 1 (.string (txt q1))).1).2.2.2 (by rw [HR.out.1, HV.out])
      have c3 : ((c : Int) == 34) = false := by simp; omega
      have hby : Bytes ((bs s).drop k) := fun x hx => bs_bytes s x (List.mem_of_mem_drop hx)
      by_cases hdig : 48 ≤ c ∧ c ≤ 57
      · have D := Lib.hid (fun W => lex_digit c true (by simp [figN]; omega) W)
        obtain ⟨Q, hQ⟩ : ∃ Q, numScan ((bs s).drop k) 0 0 = Q := ⟨_, rfl⟩
        have NU := Lib.hid (fun W => lex_number s k (by rw [Hn.out.1]; omega) (by rw [Hn.out.1]; omega) Q hQ W)
        have hsp : stepP ((bs s).drop k) = if Q.2.2 then (some (1, [], (Q.1 : Int)), Q.2.1) else (none, Q.2.1) := by
          rw [hdrop] at hQ ⊢
          simp only [stepP]
          rw [if_pos hdig, hQ]
        obtain ⟨q1, q2, q3⟩ := Q
        cases q3 with
        | true =>
          rw [if_pos rfl] at hsp
          obtain ⟨g1, g2, g3, g4, g5, g6⟩ := step_some hby hsp
          rw [List.length_drop, Hn.out.2] at g2
          have hv := scan_step hu.out (by omega) Hc.out hnb h34 hsp
          have HV := Lib.hid hv
          have HT : Hid (Tok.Is [.int .i64 1, .string ⟨#[]⟩, .int .i64 (q1 : Int), .int .i64 (k : Int)] ⟨((1 : Nat) : Int), [], (q1 : Int), (k : Int)⟩) := Lib.hid ⟨rfl, Tok.mk_ok (k := 1) bytes_nil (Nat.zero_le _) (by omega) (by omega) g5 g6⟩
          clear hv hu hdrop Hc hsp hQ g3 g5 g6 hby
          go_wp2_with (first
            | (go_at_call 55
               refine (D.out _).mono ?_
               rintro e w1 ⟨rfl, qq⟩
               have T1 : Hid (TokSt wr w1 #[Value.int .i64 0, Value.string ⟨#[]⟩, Value.int .i64 0, Value.int .i64 (k : Int)]) := Lib.hid ((TokSt.new wr _).quiet qq)
               have t0 := T1.out.2.cell (i := 0) rfl
               have t1 := T1.out.2.cell (i := 1) rfl
               have t2 := T1.out.2.cell (i := 2) rfl
               have t3 := T1.out.2.cell (i := 3) rfl
               obtain ⟨d0, d1, d2, d3, d4, d5, d6, d7⟩ := T1.out.facts hB.out.1
               clear qq)
            | (go_at_call 56
               refine (NU.out _).mono ?_
               rintro e w2 ⟨rfl, qq⟩
               have T2 : Hid (TokSt wr w2 #[Value.int .i64 1, Value.string ⟨#[]⟩, Value.int .i64 0, Value.int .i64 (k : Int)]) := Lib.hid ((T1.out.set 0 (.int .i64 1)).quiet qq)
               clear d0 d1 d2 d3 d4 d5 d6 d7 t0 t1 t2 t3
               have t0 := T2.out.2.cell (i := 0) rfl
               have t1 := T2.out.2.cell (i := 1) rfl
               have t2 := T2.out.2.cell (i := 2) rfl
               have t3 := T2.out.2.cell (i := 3) rfl
               obtain ⟨d0, d1, d2, d3, d4, d5, d6, d7⟩ := T2.out.facts hB.out.1
               clear qq)
            | (at_builtin
               go_must (refine wpList_append_list rfl (.tmp 107) (.tmp 109) _ rfl (w.heap.size + 1 + 1) _ 82 j _ 4 40 Tryz.underlying65 I.out.1 I.out.2.1 I.out.2.2.1 I.out.2.2.2 rfl (by omega) (R := Tok.Is) (l := toks) (m := [⟨((1 : Nat) : Int), [], (q1 : Int), (k : Int)⟩]) (.slice oa on oc) rfl (by exact (hB.out.1.keep ((T2.out.set 2 (.int .i64 (q1 : Int))).alloc _).1).2.2.1) (some ⟨w2.heap.size, 0, none⟩) 1 1 rfl (by exact (SlR.new1 (by simp [World.setCell]) rfl HT.out)) (a + 1) (by rw [hB.out.2]) Tok.Is.one (by rw [hB.out.2]; unfold maxLen; omega) (by rw [hB.out.2]; omega) (by simp [World.setCell]; omega) ?_)
               intro xa xc w9 hown hgr
               have ST9 : Hid (ScanSt w s k (.slice xa (a + 1) xc) (toks ++ [⟨((1 : Nat) : Int), [], (q1 : Int), (k : Int)⟩]) w9) := Lib.hid ((hB.out.1.keep ((T2.out.set 2 (.int .i64 (q1 : Int))).alloc _).1).grown hgr hown)
               have e0 := ST9.out.2.1.cell (i := 0) rfl
               have e1 := ST9.out.2.1.frozen 0
               have e2 : w.heap.size + 1 < w9.heap.size := ST9.out.2.1.lt
               clear hown hgr d0 d1 d2 d3 d4 d5 d6 d7 t0 t1 t2 t3))
          have ST := ST9.out.at_ (k + q2) (u := .int .i64 ((k : Int) + (q2 : Int))) (by go_num)
          go_roundw
          case rel => exact ⟨k + q2, f - 1, a + 1, xa, a + 1, xc, _, by omega, by omega, by omega, rfl, HV.out, ST, by simp [hB.out.2]⟩
          case measure => rw [Hat.out, ST.cell_at]; omega
        | false =>
          rw [if_neg (by simp)] at hsp
          have hv := scan_step_no hu.out (by omega) Hc.out hnb h34 hsp
          have HV := Lib.hid hv
          clear hv hu hdrop Hc hsp hQ hby
          go_wp2_with (first
            | (go_at_call 55
               refine (D.out _).mono ?_
               rintro e w1 ⟨rfl, qq⟩
               have T1 : Hid (TokSt wr w1 #[Value.int .i64 0, Value.string ⟨#[]⟩, Value.int .i64 0, Value.int .i64 (k : Int)]) := Lib.hid ((TokSt.new wr _).quiet qq)
               have t0 := T1.out.2.cell (i := 0) rfl
               have t1 := T1.out.2.cell (i := 1) rfl
               have t2 := T1.out.2.cell (i := 2) rfl
               have t3 := T1.out.2.cell (i := 3) rfl
               obtain ⟨d0, d1, d2, d3, d4, d5, d6, d7⟩ := T1.out.facts hB.out.1
               clear qq)
            | (go_at_call 56
               refine (NU.out _).mono ?_
               rintro e w2 ⟨rfl, qq⟩
               have T2 : Hid (TokSt wr w2 #[Value.int .i64 1, Value.string ⟨#[]⟩, Value.int .i64 0, Value.int .i64 (k : Int)]) := Lib.hid ((T1.out.set 0 (.int .i64 1)).quiet qq)
               clear d0 d1 d2 d3 d4 d5 d6 d7 t0 t1 t2 t3
               have t0 := T2.out.2.cell (i := 0) rfl
               have t1 := T2.out.2.cell (i := 1) rfl
               have t2 := T2.out.2.cell (i := 2) rfl
               have t3 := T2.out.2.cell (i := 3) rfl
               obtain ⟨d0, d1, d2, d3, d4, d5, d6, d7⟩ := T2.out.facts hB.out.1
               clear qq))
          (try simp only [Exit.inBlock, Exit.then, Exit.noGoto_ret])
          go_ret3
          exact ScanIs.no (by first | rfl | (push_cast; rfl)) (hB.out.1.keep (T2.out.set 2 (.int .i64 (q1 : Int))).1).2.2.2 (by rw [HR.out.1, HV.out])
      have hd0 : figN c = false := by simp [figN]; omega
      have D := Lib.hid (fun W => lex_digit c false hd0 W)
      by_cases hlet : letterN c = true
      · have L := Lib.hid (fun W => lex_letter c true hlet W)
        obtain ⟨q, hq⟩ : ∃ q, ((bs s).drop k).takeWhile furtherN = q := ⟨_, rfl⟩
        have RN : Hid (∀ W, Blk W w.heap.size 9 #[.string s] → Blk W (w.heap.size + 1) 3 #[.int .i64 (k : Int)] → Calls Tryz.prog 52 #[.pointer (some ⟨w.heap.size + 1, 0, none⟩), .pointer (some ⟨w.heap.size, 0, none⟩)] W fun e w' => e = .returned (.string (txt q)) ∧ Quiet W w') := Lib.hid (fun W h1 h2 => by
          have := lex_run s k (by rw [Hn.out.1]; omega) (by rw [Hn.out.1]; omega) W _ _ h1 h2
          rw [hq] at this
          exact this)
        have hqb : Bytes q := fun x hx => hby x (by rw [← hq] at hx; exact (List.takeWhile_sublist _).subset hx)
        have hql : q.length ≤ n - k := by
          rw [← hq, ← Hn.out.2, ← List.length_drop]
          exact takeWhile_le _
        have hqz : ((txt q).size : Int) = (q.length : Int) := by rw [txt_size]
        have hsp : stepP ((bs s).drop k) = (if q.length ≤ 32 then (some (if q ∈ wordsL then 4 else 3, q, 0), q.length) else (none, 32)) := by
          rw [hdrop] at hq ⊢
          simp only [stepP]
          rw [if_neg hdig, if_pos hlet, hq]
        by_cases hw : q ∈ wordsL
        · have RV : Hid (∀ W, Calls Tryz.prog 58 #[.string (txt q)] W fun e w' => e = .returned (.bool true) ∧ Quiet W w') := Lib.hid (fun W => by
            have := lex_reserved_any (txt q) W
            rw [bs_txt hqb, decide_eq_true hw] at this
            exact this)
          by_cases h32 : q.length ≤ 32
          · rw [if_pos h32, if_pos hw] at hsp
            obtain ⟨g1, g2, g3, g4, g5, g6⟩ := step_some hby hsp
            have hv := scan_step hu.out (by omega) Hc.out hnb h34 hsp
            have HV := Lib.hid hv
            have HT : Hid (Tok.Is [.int .i64 4, .string (txt q), .int .i64 0, .int .i64 (k : Int)] ⟨((4 : Nat) : Int), q, 0, (k : Int)⟩) := Lib.hid ⟨rfl, Tok.mk_ok (k := 4) g3 (by omega) (by omega) (by omega) (by omega) (by omega)⟩
            have h32' : decide ((q.length : Int) ≤ 32) = true := by simp; omega
            have hmn : min (q.length : Int) 32 = (q.length : Int) := Int.min_eq_left (by omega)
            clear hv hu hdrop Hc hsp hq hby hqb g3 g5 g6 hw hd0 hlet
            go_wp2_with (first
              | (go_at_call 55
                 refine (D.out _).mono ?_
                 rintro e w1 ⟨rfl, qq⟩
                 have T1 : Hid (TokSt wr w1 #[Value.int .i64 0, Value.string ⟨#[]⟩, Value.int .i64 0, Value.int .i64 (k : Int)]) := Lib.hid ((TokSt.new wr _).quiet qq)
                 have t0 := T1.out.2.cell (i := 0) rfl
                 have t1 := T1.out.2.cell (i := 1) rfl
                 have t2 := T1.out.2.cell (i := 2) rfl
                 have t3 := T1.out.2.cell (i := 3) rfl
                 obtain ⟨d0, d1, d2, d3, d4, d5, d6, d7⟩ := T1.out.facts hB.out.1
                 clear qq)
              | (go_at_call 57
                 refine (L.out _).mono ?_
                 rintro e w2 ⟨rfl, qq⟩
                 have T2 : Hid (TokSt wr w2 #[Value.int .i64 0, Value.string ⟨#[]⟩, Value.int .i64 0, Value.int .i64 (k : Int)]) := Lib.hid ((T1.out).quiet qq)
                 clear d0 d1 d2 d3 d4 d5 d6 d7 t0 t1 t2 t3
                 have t0 := T2.out.2.cell (i := 0) rfl
                 have t1 := T2.out.2.cell (i := 1) rfl
                 have t2 := T2.out.2.cell (i := 2) rfl
                 have t3 := T2.out.2.cell (i := 3) rfl
                 obtain ⟨d0, d1, d2, d3, d4, d5, d6, d7⟩ := T2.out.facts hB.out.1
                 clear qq)
              | (go_at_call 52
                 refine (RN.out _ (hB.out.1.keep T2.out.1).1 (hB.out.1.keep T2.out.1).2.1).mono ?_
                 rintro e w3 ⟨rfl, qq⟩
                 have T3 : Hid (TokSt wr w3 #[Value.int .i64 0, Value.string ⟨#[]⟩, Value.int .i64 0, Value.int .i64 (k : Int)]) := Lib.hid ((T2.out).quiet qq)
                 clear d0 d1 d2 d3 d4 d5 d6 d7 t0 t1 t2 t3
                 have t0 := T3.out.2.cell (i := 0) rfl
                 have t1 := T3.out.2.cell (i := 1) rfl
                 have t2 := T3.out.2.cell (i := 2) rfl
                 have t3 := T3.out.2.cell (i := 3) rfl
                 obtain ⟨d0, d1, d2, d3, d4, d5, d6, d7⟩ := T3.out.facts hB.out.1
                 clear qq)
              | (go_at_call 58
                 refine (RV.out _).mono ?_
                 rintro e w4 ⟨rfl, qq⟩
                 have T4 : Hid (TokSt wr w4 #[Value.int .i64 3, Value.string (txt q), Value.int .i64 0, Value.int .i64 (k : Int)]) := Lib.hid (((T3.out.set 0 (.int .i64 3)).set 1 (.string (txt q))).quiet qq)
                 clear d0 d1 d2 d3 d4 d5 d6 d7 t0 t1 t2 t3
                 have t0 := T4.out.2.cell (i := 0) rfl
                 have t1 := T4.out.2.cell (i := 1) rfl
                 have t2 := T4.out.2.cell (i := 2) rfl
                 have t3 := T4.out.2.cell (i := 3) rfl
                 obtain ⟨d0, d1, d2, d3, d4, d5, d6, d7⟩ := T4.out.facts hB.out.1
                 clear qq))
            go_region
            go_wp2_with (first
              | (at_builtin
                 go_must (refine wpList_append_list rfl (.tmp 107) (.tmp 109) _ rfl (w.heap.size + 1 + 1) _ 82 j _ 4 40 Tryz.underlying65 I.out.1 I.out.2.1 I.out.2.2.1 I.out.2.2.2 rfl (by omega) (R := Tok.Is) (l := toks) (m := [⟨((4 : Nat) : Int), q, 0, (k : Int)⟩]) (.slice oa on oc) rfl (by exact (hB.out.1.keep ((T4.out.set 0 (.int .i64 4)).alloc _).drew.1).2.2.1) (some ⟨w4.heap.size, 0, none⟩) 1 1 rfl (by exact SlR.drew_ (SlR.new1 (by simp [World.setCell]) rfl HT.out)) (a + 1) (by rw [hB.out.2]) Tok.Is.one (by rw [hB.out.2]; unfold maxLen; omega) (by rw [hB.out.2]; omega) (by simp [World.setCell]; omega) ?_)
                 intro xa xc w9 hown hgr
                 have ST9 : Hid (ScanSt w s k (.slice xa (a + 1) xc) (toks ++ [⟨((4 : Nat) : Int), q, 0, (k : Int)⟩]) w9) := Lib.hid ((hB.out.1.keep ((T4.out.set 0 (.int .i64 4)).alloc _).drew.1).grown hgr hown)
                 have e0 := ST9.out.2.1.cell (i := 0) rfl
                 have e1 := ST9.out.2.1.frozen 0
                 have e2 : w.heap.size + 1 < w9.heap.size := ST9.out.2.1.lt
                 clear hown hgr d0 d1 d2 d3 d4 d5 d6 d7 t0 t1 t2 t3))
            have ST := ST9.out.at_ (k + q.length) (u := .int .i64 ((k : Int) + (q.length : Int))) (by go_num)
            go_roundw
            case rel => exact ⟨k + q.length, f - 1, a + 1, xa, a + 1, xc, _, by omega, by omega, by omega, rfl, HV.out, ST, by simp [hB.out.2]⟩
            case measure => rw [Hat.out, ST.cell_at]; omega
          · rw [if_neg h32] at hsp
            have hv := scan_step_no hu.out (by omega) Hc.out hnb h34 hsp
            have HV := Lib.hid hv
            have h32' : decide ((q.length : Int) ≤ 32) = false := by simp; omega
            have hmn : min (q.length : Int) 32 = 32 := Int.min_eq_right (by omega)
            clear hv hu hdrop Hc hsp hq hby hqb hw hd0 hlet
            go_wp2_with (first
              | (go_at_call 55
                 refine (D.out _).mono ?_
                 rintro e w1 ⟨rfl, qq⟩
                 have T1 : Hid (TokSt wr w1 #[Value.int .i64 0, Value.string ⟨#[]⟩, Value.int .i64 0, Value.int .i64 (k : Int)]) := Lib.hid ((TokSt.new wr _).quiet qq)
                 have t0 := T1.out.2.cell (i := 0) rfl
                 have t1 := T1.out.2.cell (i := 1) rfl
                 have t2 := T1.out.2.cell (i := 2) rfl
                 have t3 := T1.out.2.cell (i := 3) rfl
                 obtain ⟨d0, d1, d2, d3, d4, d5, d6, d7⟩ := T1.out.facts hB.out.1
                 clear qq)
              | (go_at_call 57
                 refine (L.out _).mono ?_
                 rintro e w2 ⟨rfl, qq⟩
                 have T2 : Hid (TokSt wr w2 #[Value.int .i64 0, Value.string ⟨#[]⟩, Value.int .i64 0, Value.int .i64 (k : Int)]) := Lib.hid ((T1.out).quiet qq)
                 clear d0 d1 d2 d3 d4 d5 d6 d7 t0 t1 t2 t3
                 have t0 := T2.out.2.cell (i := 0) rfl
                 have t1 := T2.out.2.cell (i := 1) rfl
                 have t2 := T2.out.2.cell (i := 2) rfl
                 have t3 := T2.out.2.cell (i := 3) rfl
                 obtain ⟨d0, d1, d2, d3, d4, d5, d6, d7⟩ := T2.out.facts hB.out.1
                 clear qq)
              | (go_at_call 52
                 refine (RN.out _ (hB.out.1.keep T2.out.1).1 (hB.out.1.keep T2.out.1).2.1).mono ?_
                 rintro e w3 ⟨rfl, qq⟩
                 have T3 : Hid (TokSt wr w3 #[Value.int .i64 0, Value.string ⟨#[]⟩, Value.int .i64 0, Value.int .i64 (k : Int)]) := Lib.hid ((T2.out).quiet qq)
                 clear d0 d1 d2 d3 d4 d5 d6 d7 t0 t1 t2 t3
                 have t0 := T3.out.2.cell (i := 0) rfl
                 have t1 := T3.out.2.cell (i := 1) rfl
                 have t2 := T3.out.2.cell (i := 2) rfl
                 have t3 := T3.out.2.cell (i := 3) rfl
                 obtain ⟨d0, d1, d2, d3, d4, d5, d6, d7⟩ := T3.out.facts hB.out.1
                 clear qq)
              | (go_at_call 58
                 refine (RV.out _).mono ?_
                 rintro e w4 ⟨rfl, qq⟩
                 have T4 : Hid (TokSt wr w4 #[Value.int .i64 3, Value.string (txt q), Value.int .i64 0, Value.int .i64 (k : Int)]) := Lib.hid (((T3.out.set 0 (.int .i64 3)).set 1 (.string (txt q))).quiet qq)
                 clear d0 d1 d2 d3 d4 d5 d6 d7 t0 t1 t2 t3
                 have t0 := T4.out.2.cell (i := 0) rfl
                 have t1 := T4.out.2.cell (i := 1) rfl
                 have t2 := T4.out.2.cell (i := 2) rfl
                 have t3 := T4.out.2.cell (i := 3) rfl
                 obtain ⟨d0, d1, d2, d3, d4, d5, d6, d7⟩ := T4.out.facts hB.out.1
                 clear qq))
            go_region
            go_wp2_with fail
            (try simp only [Exit.inBlock, Exit.then, Exit.noGoto_ret])
            go_ret3
            exact ScanIs.no (by first | rfl | (push_cast; rfl)) (hB.out.1.keep ((T4.out.set 0 (.int .i64 4)).drew).1).2.2.2 (by rw [HR.out.1, HV.out])
        · have RV : Hid (∀ W, Calls Tryz.prog 58 #[.string (txt q)] W fun e w' => e = .returned (.bool false) ∧ Quiet W w') := Lib.hid (fun W => by
            have := lex_reserved_any (txt q) W
            rw [bs_txt hqb, decide_eq_false hw] at this
            exact this)
          by_cases h32 : q.length ≤ 32
          · rw [if_pos h32, if_neg hw] at hsp
            obtain ⟨g1, g2, g3, g4, g5, g6⟩ := step_some hby hsp
            have hv := scan_step hu.out (by omega) Hc.out hnb h34 hsp
            have HV := Lib.hid hv
            have HT : Hid (Tok.Is [.int .i64 3, .string (txt q), .int .i64 0, .int .i64 (k : Int)] ⟨((3 : Nat) : Int), q, 0, (k : Int)⟩) := Lib.hid ⟨rfl, Tok.mk_ok (k := 3) g3 (by omega) (by omega) (by omega) (by omega) (by omega)⟩
            have h32' : decide ((q.length : Int) ≤ 32) = true := by simp; omega
            have hmn : min (q.length : Int) 32 = (q.length : Int) := Int.min_eq_left (by omega)
            clear hv hu hdrop Hc hsp hq hby hqb g3 g5 g6 hw hd0 hlet
            go_wp2_with (first
              | (go_at_call 55
                 refine (D.out _).mono ?_
                 rintro e w1 ⟨rfl, qq⟩
                 have T1 : Hid (TokSt wr w1 #[Value.int .i64 0, Value.string ⟨#[]⟩, Value.int .i64 0, Value.int .i64 (k : Int)]) := Lib.hid ((TokSt.new wr _).quiet qq)
                 have t0 := T1.out.2.cell (i := 0) rfl
                 have t1 := T1.out.2.cell (i := 1) rfl
                 have t2 := T1.out.2.cell (i := 2) rfl
                 have t3 := T1.out.2.cell (i := 3) rfl
                 obtain ⟨d0, d1, d2, d3, d4, d5, d6, d7⟩ := T1.out.facts hB.out.1
                 clear qq)
              | (go_at_call 57
                 refine (L.out _).mono ?_
                 rintro e w2 ⟨rfl, qq⟩
                 have T2 : Hid (TokSt wr w2 #[Value.int .i64 0, Value.string ⟨#[]⟩, Value.int .i64 0, Value.int .i64 (k : Int)]) := Lib.hid ((T1.out).quiet qq)
                 clear d0 d1 d2 d3 d4 d5 d6 d7 t0 t1 t2 t3
                 have t0 := T2.out.2.cell (i := 0) rfl
                 have t1 := T2.out.2.cell (i := 1) rfl
                 have t2 := T2.out.2.cell (i := 2) rfl
                 have t3 := T2.out.2.cell (i := 3) rfl
                 obtain ⟨d0, d1, d2, d3, d4, d5, d6, d7⟩ := T2.out.facts hB.out.1
                 clear qq)
              | (go_at_call 52
                 refine (RN.out _ (hB.out.1.keep T2.out.1).1 (hB.out.1.keep T2.out.1).2.1).mono ?_
                 rintro e w3 ⟨rfl, qq⟩
                 have T3 : Hid (TokSt wr w3 #[Value.int .i64 0, Value.string ⟨#[]⟩, Value.int .i64 0, Value.int .i64 (k : Int)]) := Lib.hid ((T2.out).quiet qq)
                 clear d0 d1 d2 d3 d4 d5 d6 d7 t0 t1 t2 t3
                 have t0 := T3.out.2.cell (i := 0) rfl
                 have t1 := T3.out.2.cell (i := 1) rfl
                 have t2 := T3.out.2.cell (i := 2) rfl
                 have t3 := T3.out.2.cell (i := 3) rfl
                 obtain ⟨d0, d1, d2, d3, d4, d5, d6, d7⟩ := T3.out.facts hB.out.1
                 clear qq)
              | (go_at_call 58
                 refine (RV.out _).mono ?_
                 rintro e w4 ⟨rfl, qq⟩
                 have T4 : Hid (TokSt wr w4 #[Value.int .i64 3, Value.string (txt q), Value.int .i64 0, Value.int .i64 (k : Int)]) := Lib.hid (((T3.out.set 0 (.int .i64 3)).set 1 (.string (txt q))).quiet qq)
                 clear d0 d1 d2 d3 d4 d5 d6 d7 t0 t1 t2 t3
                 have t0 := T4.out.2.cell (i := 0) rfl
                 have t1 := T4.out.2.cell (i := 1) rfl
                 have t2 := T4.out.2.cell (i := 2) rfl
                 have t3 := T4.out.2.cell (i := 3) rfl
                 obtain ⟨d0, d1, d2, d3, d4, d5, d6, d7⟩ := T4.out.facts hB.out.1
                 clear qq))
            go_region
            go_wp2_with (first
              | (at_builtin
                 go_must (refine wpList_append_list rfl (.tmp 107) (.tmp 109) _ rfl (w.heap.size + 1 + 1) _ 82 j _ 4 40 Tryz.underlying65 I.out.1 I.out.2.1 I.out.2.2.1 I.out.2.2.2 rfl (by omega) (R := Tok.Is) (l := toks) (m := [⟨((3 : Nat) : Int), q, 0, (k : Int)⟩]) (.slice oa on oc) rfl (by exact (hB.out.1.keep ((T4.out).alloc _).drew.1).2.2.1) (some ⟨w4.heap.size, 0, none⟩) 1 1 rfl (by exact SlR.drew_ (SlR.new1 (by simp [World.setCell]) rfl HT.out)) (a + 1) (by rw [hB.out.2]) Tok.Is.one (by rw [hB.out.2]; unfold maxLen; omega) (by rw [hB.out.2]; omega) (by simp [World.setCell]; omega) ?_)
                 intro xa xc w9 hown hgr
                 have ST9 : Hid (ScanSt w s k (.slice xa (a + 1) xc) (toks ++ [⟨((3 : Nat) : Int), q, 0, (k : Int)⟩]) w9) := Lib.hid ((hB.out.1.keep ((T4.out).alloc _).drew.1).grown hgr hown)
                 have e0 := ST9.out.2.1.cell (i := 0) rfl
                 have e1 := ST9.out.2.1.frozen 0
                 have e2 : w.heap.size + 1 < w9.heap.size := ST9.out.2.1.lt
                 clear hown hgr d0 d1 d2 d3 d4 d5 d6 d7 t0 t1 t2 t3))
            have ST := ST9.out.at_ (k + q.length) (u := .int .i64 ((k : Int) + (q.length : Int))) (by go_num)
            go_roundw
            case rel => exact ⟨k + q.length, f - 1, a + 1, xa, a + 1, xc, _, by omega, by omega, by omega, rfl, HV.out, ST, by simp [hB.out.2]⟩
            case measure => rw [Hat.out, ST.cell_at]; omega
          · rw [if_neg h32] at hsp
            have hv := scan_step_no hu.out (by omega) Hc.out hnb h34 hsp
            have HV := Lib.hid hv
            have h32' : decide ((q.length : Int) ≤ 32) = false := by simp; omega
            have hmn : min (q.length : Int) 32 = 32 := Int.min_eq_right (by omega)
            clear hv hu hdrop Hc hsp hq hby hqb hw hd0 hlet
            go_wp2_with (first
              | (go_at_call 55
                 refine (D.out _).mono ?_
                 rintro e w1 ⟨rfl, qq⟩
                 have T1 : Hid (TokSt wr w1 #[Value.int .i64 0, Value.string ⟨#[]⟩, Value.int .i64 0, Value.int .i64 (k : Int)]) := Lib.hid ((TokSt.new wr _).quiet qq)
                 have t0 := T1.out.2.cell (i := 0) rfl
                 have t1 := T1.out.2.cell (i := 1) rfl
                 have t2 := T1.out.2.cell (i := 2) rfl
                 have t3 := T1.out.2.cell (i := 3) rfl
                 obtain ⟨d0, d1, d2, d3, d4, d5, d6, d7⟩ := T1.out.facts hB.out.1
                 clear qq)
              | (go_at_call 57
                 refine (L.out _).mono ?_
                 rintro e w2 ⟨rfl, qq⟩
                 have T2 : Hid (TokSt wr w2 #[Value.int .i64 0, Value.string ⟨#[]⟩, Value.int .i64 0, Value.int .i64 (k : Int)]) := Lib.hid ((T1.out).quiet qq)
                 clear d0 d1 d2 d3 d4 d5 d6 d7 t0 t1 t2 t3
                 have t0 := T2.out.2.cell (i := 0) rfl
                 have t1 := T2.out.2.cell (i := 1) rfl
                 have t2 := T2.out.2.cell (i := 2) rfl
                 have t3 := T2.out.2.cell (i := 3) rfl
                 obtain ⟨d0, d1, d2, d3, d4, d5, d6, d7⟩ := T2.out.facts hB.out.1
                 clear qq)
              | (go_at_call 52
                 refine (RN.out _ (hB.out.1.keep T2.out.1).1 (hB.out.1.keep T2.out.1).2.1).mono ?_
                 rintro e w3 ⟨rfl, qq⟩
                 have T3 : Hid (TokSt wr w3 #[Value.int .i64 0, Value.string ⟨#[]⟩, Value.int .i64 0, Value.int .i64 (k : Int)]) := Lib.hid ((T2.out).quiet qq)
                 clear d0 d1 d2 d3 d4 d5 d6 d7 t0 t1 t2 t3
                 have t0 := T3.out.2.cell (i := 0) rfl
                 have t1 := T3.out.2.cell (i := 1) rfl
                 have t2 := T3.out.2.cell (i := 2) rfl
                 have t3 := T3.out.2.cell (i := 3) rfl
                 obtain ⟨d0, d1, d2, d3, d4, d5, d6, d7⟩ := T3.out.facts hB.out.1
                 clear qq)
              | (go_at_call 58
                 refine (RV.out _).mono ?_
                 rintro e w4 ⟨rfl, qq⟩
                 have T4 : Hid (TokSt wr w4 #[Value.int .i64 3, Value.string (txt q), Value.int .i64 0, Value.int .i64 (k : Int)]) := Lib.hid (((T3.out.set 0 (.int .i64 3)).set 1 (.string (txt q))).quiet qq)
                 clear d0 d1 d2 d3 d4 d5 d6 d7 t0 t1 t2 t3
                 have t0 := T4.out.2.cell (i := 0) rfl
                 have t1 := T4.out.2.cell (i := 1) rfl
                 have t2 := T4.out.2.cell (i := 2) rfl
                 have t3 := T4.out.2.cell (i := 3) rfl
                 obtain ⟨d0, d1, d2, d3, d4, d5, d6, d7⟩ := T4.out.facts hB.out.1
                 clear qq))
            go_region
            go_wp2_with fail
            (try simp only [Exit.inBlock, Exit.then, Exit.noGoto_ret])
            go_ret3
            exact ScanIs.no (by first | rfl | (push_cast; rfl)) (hB.out.1.keep ((T4.out).drew).1).2.2.2 (by rw [HR.out.1, HV.out])
      · have hlet' : letterN c = false := by simpa using hlet
        have L := Lib.hid (fun W => lex_letter c false hlet' W)
        have hx : bs (s.extract k s.size) = (bs s).drop k := by rw [bs_extract, List.take_of_length_le (by rw [bs_len]; exact Nat.le_refl _)]
        have hxs : (s.extract k s.size).size ≤ 4096 := by rw [← bs_len, hx, List.length_drop, Hn.out.2]; omega
        obtain ⟨Q, hQ⟩ : ∃ Q, markN ((bs s).drop k) = Q := ⟨_, rfl⟩
        have hsp : stepP ((bs s).drop k) = if Q.1 = [] then (none, Q.2) else (some (5, Q.1, 0), Q.2) := by
          rw [hdrop] at hQ ⊢
          simp only [stepP]
          rw [if_neg hdig, if_neg hlet, hQ]
        have MK : Hid (∀ W, Below w.heap.size w W → Calls Tryz.prog 59 #[.string (s.extract k s.size)] W fun e w' => e = .returned (.tuple #[.string (txt Q.1), .int .i64 (Q.2 : Int)]) ∧ Quiet W w') := Lib.hid (fun W hW => lex_mark (s.extract k s.size) c (by rw [hx, hdrop]; rfl) hxs Q (by rw [hx]; exact hQ) W (Hm.out.below hW))
        obtain ⟨q1, q2⟩ := Q
        have hq2 : q2 ≤ 2 := by
          have : ∀ m ∈ marksL, m.length ≤ 2 := by decide
          unfold markN at hQ
          split at hQ
          · rename_i m hm
            injection hQ with _ h
            rw [← h]
            exact this _ (List.mem_of_find?_eq_some hm)
          · split at hQ <;> injection hQ with _ h <;> omega
        by_cases hq1 : q1 = []
        · subst hq1
          rw [if_pos rfl] at hsp
          have hv := scan_step_no hu.out (by omega) Hc.out hnb h34 hsp
          have HV := Lib.hid hv
          have he0 : (txt []).toList = [] := by rw [ByteArray.toList_eq]; rfl
          have he1 : (!(txt []).toList.isEmpty) = false := by rw [he0]; rfl
          have he2 : (txt []).toList.isEmpty = true := by rw [he0]; rfl
          clear hv hu hdrop Hc hsp hQ hby hx hxs hd0 hlet hlet'
          go_wp2_with (first
            | (go_at_call 55
               refine (D.out _).mono ?_
               rintro e w1 ⟨rfl, qq⟩
               have T1 : Hid (TokSt wr w1 #[Value.int .i64 0, Value.string ⟨#[]⟩, Value.int .i64 0, Value.int .i64 (k : Int)]) := Lib.hid ((TokSt.new wr _).quiet qq)
               have t0 := T1.out.2.cell (i := 0) rfl
               have t1 := T1.out.2.cell (i := 1) rfl
               have t2 := T1.out.2.cell (i := 2) rfl
               have t3 := T1.out.2.cell (i := 3) rfl
               obtain ⟨d0, d1, d2, d3, d4, d5, d6, d7⟩ := T1.out.facts hB.out.1
               clear qq)
            | (go_at_call 57
               refine (L.out _).mono ?_
               rintro e w2 ⟨rfl, qq⟩
               have T2 : Hid (TokSt wr w2 #[Value.int .i64 0, Value.string ⟨#[]⟩, Value.int .i64 0, Value.int .i64 (k : Int)]) := Lib.hid ((T1.out).quiet qq)
               clear d0 d1 d2 d3 d4 d5 d6 d7 t0 t1 t2 t3
               have t0 := T2.out.2.cell (i := 0) rfl
               have t1 := T2.out.2.cell (i := 1) rfl
               have t2 := T2.out.2.cell (i := 2) rfl
               have t3 := T2.out.2.cell (i := 3) rfl
               obtain ⟨d0, d1, d2, d3, d4, d5, d6, d7⟩ := T2.out.facts hB.out.1
               clear qq)
            | (go_at_call 59
               refine (MK.out _ (hB.out.1.keep T2.out.1).2.2.2).mono ?_
               rintro e w3 ⟨rfl, qq⟩
               have T3 : Hid (TokSt wr w3 #[Value.int .i64 0, Value.string ⟨#[]⟩, Value.int .i64 0, Value.int .i64 (k : Int)]) := Lib.hid ((T2.out).quiet qq)
               clear d0 d1 d2 d3 d4 d5 d6 d7 t0 t1 t2 t3
               have t0 := T3.out.2.cell (i := 0) rfl
               have t1 := T3.out.2.cell (i := 1) rfl
               have t2 := T3.out.2.cell (i := 2) rfl
               have t3 := T3.out.2.cell (i := 3) rfl
               obtain ⟨d0, d1, d2, d3, d4, d5, d6, d7⟩ := T3.out.facts hB.out.1
               clear qq))
          go_region
          go_wp2_with fail
          (try simp only [Exit.inBlock, Exit.then, Exit.noGoto_ret])
          go_ret3
          exact ScanIs.no (by first | rfl | (push_cast; rfl)) (hB.out.1.keep (((T3.out.set 0 (.int .i64 5)).set 1 (.string (txt []))).drew).1).2.2.2 (by rw [HR.out.1, HV.out])
        · rw [if_neg hq1] at hsp
          obtain ⟨g1, g2, g3, g4, g5, g6⟩ := step_some hby hsp
          have g7 := step_len8 hsp
          rw [List.length_drop, Hn.out.2] at g2 g7
          replace g3 : Bytes q1 := g3
          replace g7 : q1.length ≤ n - k := g7
          have hv := scan_step hu.out (by omega) Hc.out hnb h34 hsp
          have HV := Lib.hid hv
          have HT : Hid (Tok.Is [.int .i64 5, .string (txt q1), .int .i64 0, .int .i64 (k : Int)] ⟨((5 : Nat) : Int), q1, 0, (k : Int)⟩) := Lib.hid ⟨rfl, Tok.mk_ok (k := 5) g3 (by omega) (by omega) (by omega) (by omega) (by omega)⟩
          have hne : ¬ txt q1 = txt [] := fun e => hq1 (by rw [← bs_txt g3, e]; rfl)
          have hne1 : ¬ (txt q1).toList = [] := fun e => hne ((toList_inj _ _).1 (e.trans (by rw [ByteArray.toList_eq]; rfl)))
          have hne2 : (!(txt q1).toList.isEmpty) = true := by simpa using hne1
          have hne3 : ((txt q1).toList == []) = false := by simpa using hne1
          clear hv hu hdrop Hc hsp hQ hby hx hxs hd0 hlet hlet' g3 g5 g6 hne hq1
          go_wp2_with (first
            | (go_at_call 55
               refine (D.out _).mono ?_
               rintro e w1 ⟨rfl, qq⟩
               have T1 : Hid (TokSt wr w1 #[Value.int .i64 0, Value.string ⟨#[]⟩, Value.int .i64 0, Value.int .i64 (k : Int)]) := Lib.hid ((TokSt.new wr _).quiet qq)
               have t0 := T1.out.2.cell (i := 0) rfl
               have t1 := T1.out.2.cell (i := 1) rfl
               have t2 := T1.out.2.cell (i := 2) rfl
               have t3 := T1.out.2.cell (i := 3) rfl
               obtain ⟨d0, d1, d2, d3, d4, d5, d6, d7⟩ := T1.out.facts hB.out.1
               clear qq)
            | (go_at_call 57
               refine (L.out _).mono ?_
               rintro e w2 ⟨rfl, qq⟩
               have T2 : Hid (TokSt wr w2 #[Value.int .i64 0, Value.string ⟨#[]⟩, Value.int .i64 0, Value.int .i64 (k : Int)]) := Lib.hid ((T1.out).quiet qq)
               clear d0 d1 d2 d3 d4 d5 d6 d7 t0 t1 t2 t3
               have t0 := T2.out.2.cell (i := 0) rfl
               have t1 := T2.out.2.cell (i := 1) rfl
               have t2 := T2.out.2.cell (i := 2) rfl
               have t3 := T2.out.2.cell (i := 3) rfl
               obtain ⟨d0, d1, d2, d3, d4, d5, d6, d7⟩ := T2.out.facts hB.out.1
               clear qq)
            | (go_at_call 59
               refine (MK.out _ (hB.out.1.keep T2.out.1).2.2.2).mono ?_
               rintro e w3 ⟨rfl, qq⟩
               have T3 : Hid (TokSt wr w3 #[Value.int .i64 0, Value.string ⟨#[]⟩, Value.int .i64 0, Value.int .i64 (k : Int)]) := Lib.hid ((T2.out).quiet qq)
               clear d0 d1 d2 d3 d4 d5 d6 d7 t0 t1 t2 t3
               have t0 := T3.out.2.cell (i := 0) rfl
               have t1 := T3.out.2.cell (i := 1) rfl
               have t2 := T3.out.2.cell (i := 2) rfl
               have t3 := T3.out.2.cell (i := 3) rfl
               obtain ⟨d0, d1, d2, d3, d4, d5, d6, d7⟩ := T3.out.facts hB.out.1
               clear qq))
          go_region
          go_wp2_with (first
            | (at_builtin
               go_must (refine wpList_append_list rfl (.tmp 107) (.tmp 109) _ rfl (w.heap.size + 1 + 1) _ 82 j _ 4 40 Tryz.underlying65 I.out.1 I.out.2.1 I.out.2.2.1 I.out.2.2.2 rfl (by omega) (R := Tok.Is) (l := toks) (m := [⟨((5 : Nat) : Int), q1, 0, (k : Int)⟩]) (.slice oa on oc) rfl (by exact (hB.out.1.keep (((T3.out.set 0 (.int .i64 5)).set 1 (.string (txt q1))).alloc _).drew.1).2.2.1) (some ⟨w3.heap.size, 0, none⟩) 1 1 rfl (by exact SlR.drew_ (SlR.new1 (by simp [World.setCell]) rfl HT.out)) (a + 1) (by rw [hB.out.2]) Tok.Is.one (by rw [hB.out.2]; unfold maxLen; omega) (by rw [hB.out.2]; omega) (by simp [World.setCell]; omega) ?_)
               intro xa xc w9 hown hgr
               have ST9 : Hid (ScanSt w s k (.slice xa (a + 1) xc) (toks ++ [⟨((5 : Nat) : Int), q1, 0, (k : Int)⟩]) w9) := Lib.hid ((hB.out.1.keep (((T3.out.set 0 (.int .i64 5)).set 1 (.string (txt q1))).alloc _).drew.1).grown hgr hown)
               have e0 := ST9.out.2.1.cell (i := 0) rfl
               have e1 := ST9.out.2.1.frozen 0
               have e2 : w.heap.size + 1 < w9.heap.size := ST9.out.2.1.lt
               clear hown hgr d0 d1 d2 d3 d4 d5 d6 d7 t0 t1 t2 t3))
          have ST := ST9.out.at_ (k + q2) (u := .int .i64 ((k : Int) + (q2 : Int))) (by go_num)
          go_roundw
          case rel => exact ⟨k + q2, f - 1, a + 1, xa, a + 1, xc, _, by omega, by omega, by omega, rfl, HV.out, ST, by simp [hB.out.2]⟩
          case measure => rw [Hat.out, ST.cell_at]; omega
    · have hdec : decide (k < n) = false := by simp; omega
      have hdec2 : decide ((k : Int) < (n : Int)) = false := by simp; omega
      have hv := scan_end hu.out (by rw [Hn.out.2]; omega)
      have HV := Lib.hid hv
      clear hv hu
      go_wp2_with fail
      go_ret3
      exact ⟨oa, on, oc, by rw [HR.out.1, HV.out]; rfl, by rw [HR.out.1, HV.out]; exact hB.out.1.2.2.1.mono (by omega), hB.out.1.2.2.2⟩
end Go.Proofs.YtidkbodmiegbkaaGreatDoor
namespace Go.Proofs.YtidkbodmiegbkaaGreatDoor
set_option linter.unusedSimpArgs false
set_option linter.unusedVariables false
open Go.RowKit
theorem Blk.drwC {w : World} {g : Nat} {t : TypeId} {cs : Array Value} (h : Blk w g t cs) : Blk w.drew g t cs := h
theorem txt_eq {a b : List Nat} (ha : Bytes a) (hb : Bytes b) : ((txt a).toList == (txt b).toList) = decide (a = b) := by
  rw [Bool.eq_iff_iff]
  simp only [beq_iff_eq, decide_eq_true_eq, toList_inj]
  exact ⟨fun h => by rw [← bs_txt ha, ← bs_txt hb, h], fun h => by rw [h]⟩
end Go.Proofs.YtidkbodmiegbkaaGreatDoor
namespace Go.Proofs.YtidkbodmiegbkaaGreatDoor
set_option linter.unusedSimpArgs false
set_option linter.unusedVariables false
/-- an expression as a tree: its kind, text, number, parts -/
inductive Tr where
  | node (kind : Nat) (text : List Nat) (num : Int) (kids : List Tr)
mutual
def Tr.size : Tr → Nat
  | .node _ _ _ ks => 1 + sizeL ks
def sizeL : List Tr → Nat
  | [] => 0
  | t :: ts => t.size + sizeL ts
end
mutual
def Tr.deep : Tr → Nat
  | .node _ _ _ ks => deepL ks + 1
def deepL : List Tr → Nat
  | [] => 0
  | t :: ts => max t.deep (deepL ts)
end
/-- a node in a list -/
structure EN where
  kind : Nat
  text : List Nat
  num : Int
  kids : List Nat
  deriving DecidableEq
mutual
/-- a tree as a list that begins at a place -/
def Tr.flat : Tr → Nat → List EN
  | .node k s n ks, p => ⟨k, s, n, placesL ks (p + 1)⟩ :: flatL ks (p + 1)
def flatL : List Tr → Nat → List EN
  | [], _ => []
  | t :: ts, p => t.flat p ++ flatL ts (p + t.size)
def placesL : List Tr → Nat → List Nat
  | [], _ => []
  | t :: ts, p => p :: placesL ts (p + t.size)
end
mutual
theorem trFlat_len : ∀ (t : Tr) (p : Nat), (t.flat p).length = t.size
  | .node k s n ks, p => by simp only [Tr.flat, Tr.size, List.length_cons, trFlatL_len ks]; omega
theorem trFlatL_len : ∀ (l : List Tr) (p : Nat), (flatL l p).length = sizeL l
  | [], _ => rfl
  | t :: ts, p => by simp only [flatL, sizeL, List.length_append, trFlat_len t, trFlatL_len ts]
end
theorem size_pos (t : Tr) : 1 ≤ t.size := by cases t; simp only [Tr.size]; omega
/-- what reading comes to: a tree and the next token's number; the number of the token where it stops; 'out': not told -/
inductive PR where
  | ok (t : Tr) (i : Nat)
  | no (i : Nat)
  | out
def orT : List Nat := [111, 114]
def andT : List Nat := [97, 110, 100]
def notT : List Nat := [110, 111, 116]
def openT : List Nat := [40]
def closeT : List Nat := [41]
def minusT : List Nat := [45]
def inT : List Nat := [105, 110]
def colonT : List Nat := [58]
def endT : List Nat := [101, 110, 100]
def thenT : List Nat := [116, 104, 101, 110]
def elseT : List Nat := [101, 108, 115, 101]
/-- marks and words between parts or behind one: text, kind, level -/
def signsL : List (List Nat × Nat × Nat) := [(orT, 28, 1), (andT, 27, 2), ([61, 61], 23, 4), ([33, 61], 24, 4), ([60], 25, 4), ([60, 61], 26, 4), ([43], 20, 5), ([45], 21, 5), ([42], 22, 6), ([46], 8, 7), ([35], 9, 7), ([45, 62], 10, 7), ([94], 11, 7), ([63], 12, 7), ([33, 33], 13, 7)]
/-- words that stand by themselves, take a part in brackets, are loops: text, kind, which -/
def onesL : List (List Nat × Nat × Nat) := [([116, 114, 117, 101], 3, 0), ([102, 97, 108, 115, 101], 4, 0), ([115, 101, 108, 102], 5, 0), ([110, 111, 110, 101], 6, 0), ([115, 105, 122, 101], 14, 1), ([102, 105, 114, 115, 116], 15, 1), ([116, 101, 120, 116], 16, 1), ([99, 111, 110, 99, 101, 112, 116], 17, 1), ([105, 100], 18, 1), ([105, 110, 116], 19, 1), ([97, 110, 121], 31, 2), ([101, 118, 101, 114, 121], 32, 2), ([111, 110, 108, 121], 33, 2), ([115, 117, 109], 34, 2), ([105, 102], 30, 3)]
def oneN (s : List Nat) : Nat × Nat := match onesL.find? (fun x => decide (x.1 = s)) with
  | some x => x.2
  | none => (0, 0)
/-- is the token a mark or a word of that text? -/
def isT (l : List Tok) (i : Nat) (s : List Nat) : Bool := match l[i]? with
  | some t => decide (4 ≤ t.kind) && decide (t.text = s)
  | none => false
/-- the kind of the sign of that level; 0: there is none -/
def signK (l : List Tok) (n i : Nat) : Nat := match signsL.find? (fun x => decide (x.2.2 = n) && isT l i x.1) with
  | some x => x.2.1
  | none => 0
def PR.bind (r : PR) (g : Tr → Nat → PR) : PR := match r with
  | .ok t i => g t i
  | .no i => .no i
  | .out => .out
def want (l : List Tok) (i : Nat) (s : List Nat) (r : PR) : PR := if isT l i s then r else .no i
def nameAt (l : List Tok) (i : Nat) (g : List Nat → PR) : PR := match l[i]? with
  | some t => if t.kind = 3 then g t.text else .no i
  | none => .no i
mutual
/-- what stands at a level -/
def pL (l : List Tok) : Nat → Nat → Nat → PR
  | 0, _, _ => .out
  | f + 1, n, i =>
    if n = 3 then (if isT l i notT then (pL l f 3 (i + 1)).bind fun k j => .ok (.node 29 [] 0 [k]) j else pL l f 4 i)
    else if n = 7 then (pP l f i).bind fun t j => pQ l f t j
    else (pL l f (n + 1) i).bind fun t j => pR l f n t j
/-- signs of a level, and parts, behind one -/
def pR (l : List Tok) : Nat → Nat → Tr → Nat → PR
  | 0, _, _, _ => .out
  | f + 1, n, t, i =>
    if signK l n i = 0 then .ok t i
    else (pL l f (n + 1) (i + 1)).bind fun r j => if n = 4 then .ok (.node (signK l n i) [] 0 [t, r]) j else pR l f n (.node (signK l n i) [] 0 [t, r]) j
/-- what stands behind one -/
def pQ (l : List Tok) : Nat → Tr → Nat → PR
  | 0, _, _ => .out
  | f + 1, t, i =>
    if signK l 7 i = 0 then .ok t i
    else if signK l 7 i = 11 then pQ l f (.node 11 [] 0 [t]) (i + 1)
    else nameAt l (i + 1) fun s => pQ l f (.node (signK l 7 i) s 0 [t]) (i + 2)
/-- what stands by itself -/
def pP (l : List Tok) : Nat → Nat → PR
  | 0, _ => .out
  | f + 1, i => match l[i]? with
    | none => .no i
    | some t =>
      if t.kind = 1 then .ok (.node 1 [] t.num []) (i + 1)
      else if t.kind = 2 then .ok (.node 2 t.text 0 []) (i + 1)
      else if t.kind = 3 then .ok (.node 7 t.text 0 []) (i + 1)
      else if t.kind = 5 then
        (if t.text = minusT then (match l[i + 1]? with
            | some x => if x.kind = 1 then .ok (.node 1 [] (-x.num) []) (i + 2) else .no (i + 1)
            | none => .no (i + 1))
          else if t.text = openT then (pL l f 1 (i + 1)).bind fun k j => want l j closeT (.ok k (j + 1))
          else .no i)
      else match oneN t.text with
        | (0, _) => .no i
        | (k, 0) => .ok (.node k [] 0 []) (i + 1)
        | (k, 1) => want l (i + 1) openT ((pL l f 1 (i + 2)).bind fun a j => want l j closeT (.ok (.node k [] 0 [a]) (j + 1)))
        | (k, 2) => nameAt l (i + 1) fun s => want l (i + 2) inT ((pL l f 1 (i + 3)).bind fun a j => want l j colonT ((pL l f 1 (j + 1)).bind fun b m => want l m endT (.ok (.node k s 0 [a, b]) (m + 1))))
        | (k, _) => (pL l f 1 (i + 1)).bind fun a j => want l j thenT ((pL l f 1 (j + 1)).bind fun b m => want l m elseT ((pL l f 1 (m + 1)).bind fun c q => want l q endT (.ok (.node k [] 0 [a, b, c]) (q + 1))))
end
/-- it is told, within the row; where a tree is read it has no more nodes than tokens were gone over -/
def PR.In (r : PR) (l : List Tok) (i s : Nat) : Prop := match r with
  | .ok t j => i ≤ j ∧ j ≤ l.length ∧ t.size + i ≤ s + j
  | .no j => j ≤ l.length
  | .out => False
theorem isT_lt {l : List Tok} {i : Nat} {s : List Nat} (h : isT l i s = true) : i < l.length := by
  unfold isT at h
  cases hx : l[i]? with
  | none => rw [hx] at h; cases h
  | some t => exact (List.getElem?_eq_some_iff.1 hx).1
theorem signK_lt {l : List Tok} {n i : Nat} (h : signK l n i ≠ 0) : i < l.length := by
  unfold signK at h
  cases hx : signsL.find? (fun x => decide (x.2.2 = n) && isT l i x.1) with
  | none => rw [hx] at h; exact absurd rfl h
  | some x =>
    have := List.find?_some hx
    rw [Bool.and_eq_true] at this
    exact isT_lt this.2
theorem In_bind {r : PR} {l : List Tok} {i s i' s' : Nat} {g : Tr → Nat → PR} (h : r.In l i s) (hg : ∀ t j, i ≤ j → j ≤ l.length → t.size + i ≤ s + j → (g t j).In l i' s') : (r.bind g).In l i' s' := by
  cases r with
  | ok t j => exact hg t j h.1 h.2.1 h.2.2
  | no j => exact h
  | out => exact h
theorem In_want {l : List Tok} {i i' s' : Nat} {s : List Nat} {r : PR} (hi : i ≤ l.length) (h : i < l.length → r.In l i' s') : (want l i s r).In l i' s' := by
  unfold want
  split
  · rename_i hs; exact h (isT_lt hs)
  · exact hi
theorem In_name {l : List Tok} {i i' s' : Nat} {g : List Nat → PR} (hi : i ≤ l.length) (h : i < l.length → ∀ s, (g s).In l i' s') : (nameAt l i g).In l i' s' := by
  unfold nameAt
  cases hx : l[i]? with
  | none => exact hi
  | some t =>
    simp only
    split
    · exact h (List.getElem?_eq_some_iff.1 hx).1 _
    · exact hi
theorem p_told (l : List Tok) : ∀ f : Nat,
    (∀ n i, 1 ≤ n → n ≤ 7 → i ≤ l.length → 12 * (l.length - i) + (11 - n) ≤ f → (pL l f n i).In l (i + 1) 1) ∧
    (∀ n t i, 1 ≤ n → n ≤ 6 → i ≤ l.length → 12 * (l.length - i) + 1 ≤ f → (pR l f n t i).In l i t.size) ∧
    (∀ t i, i ≤ l.length → 12 * (l.length - i) + 1 ≤ f → (pQ l f t i).In l i t.size) ∧
    (∀ i, i ≤ l.length → 12 * (l.length - i) + 2 ≤ f → (pP l f i).In l (i + 1) 1) := by
  intro f
  induction f with
  | zero => exact ⟨fun n i _ _ _ h => by omega, fun n t i _ _ _ h => by omega, fun t i _ h => by omega, fun i _ h => by omega⟩
  | succ f ih =>
    obtain ⟨hL, hR, hQ, hP⟩ := ih
    refine ⟨fun n i h1 h7 hi hf => ?_, fun n t i h1 h6 hi hf => ?_, fun t i hi hf => ?_, fun i hi hf => ?_⟩
    · rw [pL]
      split
      · split
        · rename_i hs
          have := isT_lt hs
          refine In_bind (hL 3 (i + 1) (by omega) (by omega) (by omega) (by omega)) fun t j g1 g2 g3 => ?_
          simp only [PR.In, Tr.size, sizeL]; omega
        · exact hL 4 i (by omega) (by omega) hi (by omega)
      · split
        · refine In_bind (hP i hi (by omega)) fun t j g1 g2 g3 => ?_
          have := hQ t j g2 (by omega)
          revert this
          cases pQ l f t j with
          | ok u k => simp only [PR.In]; omega
          | no k => exact id
          | out => exact id
        · refine In_bind (hL (n + 1) i (by omega) (by omega) hi (by omega)) fun t j g1 g2 g3 => ?_
          have := hR n t j (by omega) (by omega) g2 (by omega)
          revert this
          cases pR l f n t j with
          | ok u k => simp only [PR.In]; omega
          | no k => exact id
          | out => exact id
    · rw [pR]
      split
      · simp only [PR.In]; omega
      · rename_i hs
        have := signK_lt hs
        refine In_bind (hL (n + 1) (i + 1) (by omega) (by omega) (by omega) (by omega)) fun r j g1 g2 g3 => ?_
        split
        · simp only [PR.In, Tr.size, sizeL]; omega
        · have := hR n (.node (signK l n i) [] 0 [t, r]) j (by omega) (by omega) g2 (by omega)
          revert this
          cases pR l f n (.node (signK l n i) [] 0 [t, r]) j with
          | ok u k => simp only [PR.In, Tr.size, sizeL]; omega
          | no k => exact id
          | out => exact id
    · rw [pQ]
      split
      · simp only [PR.In]; omega
      · rename_i hs
        have := signK_lt hs
        split
        · have := hQ (.node 11 [] 0 [t]) (i + 1) (by omega) (by omega)
          revert this
          cases pQ l f (.node 11 [] 0 [t]) (i + 1) with
          | ok u k => simp only [PR.In, Tr.size, sizeL]; omega
          | no k => exact id
          | out => exact id
        · refine In_name (by omega) fun hl s => ?_
          have := hQ (.node (signK l 7 i) s 0 [t]) (i + 2) (by omega) (by omega)
          revert this
          cases pQ l f (.node (signK l 7 i) s 0 [t]) (i + 2) with
          | ok u k => simp only [PR.In, Tr.size, sizeL]; omega
          | no k => exact id
          | out => exact id
    · rw [pP]
      have hL1 : ∀ j, i < j → j ≤ l.length → (pL l f 1 j).In l (j + 1) 1 := fun j h1 h2 => hL 1 j (by omega) (by omega) h2 (by omega)
      cases hx : l[i]? with
      | none => exact hi
      | some t =>
        have hlt := (List.getElem?_eq_some_iff.1 hx).1
        have one : ∀ k s v, (PR.ok (.node k s v []) (i + 1)).In l (i + 1) 1 := fun k s v => by simp only [PR.In, Tr.size, sizeL]; omega
        simp only
        split
        · exact one _ _ _
        split
        · exact one _ _ _
        split
        · exact one _ _ _
        split
        · split
          · cases hy : l[i + 1]? with
            | none => exact hlt
            | some x =>
              have := (List.getElem?_eq_some_iff.1 hy).1
              simp only
              split
              · simp only [PR.In, Tr.size, sizeL]; omega
              · exact hlt
          split
          · refine In_bind (hL1 (i + 1) (by omega) (by omega)) fun k j g1 g2 g3 => In_want g2 fun _ => ?_
            simp only [PR.In]; omega
          · exact hi
        · split
          · exact hi
          · exact one _ _ _
          · refine In_want hlt fun _ => In_bind (hL1 (i + 2) (by omega) (by omega)) fun k j g1 g2 g3 => In_want g2 fun _ => ?_
            simp only [PR.In, Tr.size, sizeL]; omega
          · refine In_name hlt fun _ s => In_want (by omega) fun _ => In_bind (hL1 (i + 3) (by omega) (by omega)) fun a j g1 g2 g3 => In_want g2 fun _ => In_bind (hL1 (j + 1) (by omega) (by omega)) fun b m k1 k2 k3 => In_want k2 fun _ => ?_
            simp only [PR.In, Tr.size, sizeL]; omega
          · refine In_bind (hL1 (i + 1) (by omega) (by omega)) fun a j g1 g2 g3 => In_want g2 fun _ => In_bind (hL1 (j + 1) (by omega) (by omega)) fun b m k1 k2 k3 => In_want k2 fun _ => In_bind (hL1 (m + 1) (by omega) (by omega)) fun c q m1 m2 m3 => In_want m2 fun _ => ?_
            simp only [PR.In, Tr.size, sizeL]; omega
/-- reading a whole row -/
def parseT (l : List Tok) : PR := (pL l (12 * l.length + 10) 1 0).bind fun t i => if i < l.length then .no i else .ok t i
/-- P8.1: the nodes, the place, the error -/
def parseN (s : List Nat) : List EN × Nat × Nat :=
  if (scanN s).2.2 ≠ 0 then ([], (scanN s).2.1, (scanN s).2.2)
  else match parseT (scanN s).1 with
    | .ok t _ => if 256 < t.size ∨ 32 < t.deep then ([], 0, 4) else (t.flat 0, 0, 0)
    | .no i => ([], (match (scanN s).1[i]? with | some x => x.place.toNat | none => s.length), 80)
    | .out => ([], 0, 0)
theorem parse_told (l : List Tok) : (pL l (12 * l.length + 10) 1 0).In l 1 1 := by
  have := (p_told l (12 * l.length + 10)).1 1 0 (by omega) (by omega) (by omega) (by omega)
  simpa using this
end Go.Proofs.YtidkbodmiegbkaaGreatDoor
namespace Go.Proofs.YtidkbodmiegbkaaGreatDoor
set_option linter.unusedSimpArgs false
set_option linter.unusedVariables false
open Go.RowKit
/-- but for block q, what was there stays -/
structure Mv (q : Nat) (W W' : World) : Prop where
  low : Below q W W'
  high : ∀ k, q < k → k < W.heap.size → W'.heap[k]? = W.heap[k]?
theorem Mv.refl (q : Nat) (W : World) : Mv q W W := ⟨Below.refl _ _, fun _ _ _ => rfl⟩
theorem Mv.trans {q : Nat} {a b c : World} (h : Mv q a b) (k : Mv q b c) : Mv q a c :=
  ⟨h.low.trans k.low, fun j h1 h2 => (k.high j h1 (Nat.lt_of_lt_of_le h2 h.low.size)).trans (h.high j h1 h2)⟩
theorem Mv.of_below {q : Nat} {W W' : World} (hb : Below W.heap.size W W') (hq : q ≤ W.heap.size) : Mv q W W' := ⟨hb.mono hq, fun k _ h => hb.block k h⟩
theorem Mv.set (q : Nat) (W : World) (i : Nat) (u : Value) : Mv q W (W.setCell ⟨q, i, none⟩ u) :=
  ⟨(Below.refl q W).setCell (p := ⟨q, i, none⟩) (Nat.le_refl q) u, fun k h _ => Below.heap_setCell W ⟨q, i, none⟩ u k (by show k ≠ q; omega)⟩
theorem Mv.blk {q : Nat} {W W' : World} {g : Nat} {t : TypeId} {cs : Array Value} (h : Mv q W W') (hb : Blk W g t cs) (hg : q < g) : Blk W' g t cs := (h.high g hg hb.lt).trans hb
/-- the variable of the signs -/
def signsV : Array Value := (signsL.map fun x => [Value.string (txt x.1), .int .i64 (x.2.1 : Int), .int .i64 (x.2.2 : Int)]).flatten.toArray
def Signs (w : World) : Prop := w.var? Tryz.prog "topiary/expr.signs" = some signsV
theorem signs_block {w : World} (h : Signs w) : ∃ t fr, w.heap[2]? = some (.cells signsV t fr) := by
  unfold Signs World.var? at h
  rw [show Tryz.prog.globalNamed "topiary/expr.signs" = some 2 by kernel_rfl] at h
  simp only [Option.bind_some] at h
  cases hh : w.heap[2]? with
  | none => rw [hh] at h; cases h
  | some o =>
    rw [hh] at h
    cases o with
    | cells cs t fr => simp only [Option.some.injEq] at h; subst h; exact ⟨t, fr, rfl⟩
    | _ => cases h
theorem Signs.of_block {w w' : World} (h : Signs w) (hb : w'.heap[2]? = w.heap[2]?) : Signs w' := by
  unfold Signs World.var? at h ⊢
  rw [show Tryz.prog.globalNamed "topiary/expr.signs" = some 2 by kernel_rfl] at h ⊢
  simp only [Option.bind_some] at h ⊢
  rw [hb]
  exact h
/-- a token as the scanner makes them -/
def TokG (t : Tok) : Prop := (t.kind = 1 ∧ 0 ≤ t.num) ∨ t.kind = 2 ∨ t.kind = 3 ∨ (t.kind = 4 ∧ t.text ∈ wordsL) ∨ (t.kind = 5 ∧ t.text ∈ marksL)
theorem TokG.range {t : Tok} (h : TokG t) : 1 ≤ t.kind ∧ t.kind ≤ 5 := by unfold TokG at h; omega
/-- the place that is told where reading stops at a token -/
def placeAt (l : List Tok) (sz i : Nat) : Int := match l[i]? with
  | some t => t.place
  | none => (sz : Int)
/-- what is thrown -/
def thrownE (k : Int) : List PanicEntry := [{ v := .iface 69 (.agg #[.int .i64 k]), recovered := false }]
/-- the parser's state: its tokens lie below its box; the place of the next one -/
structure PSt (q : Nat) (a : Option Addr) (c sz : Nat) (l : List Tok) (i : Nat) (W : World) : Prop where
  toks : SlR W q 4 Tok.Is (.slice a l.length c) l
  box : Blk W q 73 #[.slice a l.length c, .int .i64 (i : Int), .int .i64 (sz : Int)]
  low : 2 < q
  signs : Signs W
  le : i ≤ l.length
  few : l.length ≤ 4097
  good : ∀ t ∈ l, TokG t
section
variable {q : Nat} {a : Option Addr} {c sz : Nat} {l : List Tok} {i : Nat} {W W' : World}
theorem PSt.mv {j : Nat} (h : PSt q a c sz l i W) (hm : Below q W W') (hb : Blk W' q 73 #[.slice a l.length c, .int .i64 (j : Int), .int .i64 (sz : Int)]) (hj : j ≤ l.length) : PSt q a c sz l j W' :=
  ⟨h.toks.below hm, hb, h.low, h.signs.of_block (hm.block 2 h.low), hj, h.few, h.good⟩
theorem PSt.keep (h : PSt q a c sz l i W) (hb : Below W.heap.size W W') : PSt q a c sz l i W' :=
  h.mv (hb.mono (Nat.le_of_lt h.box.lt)) (h.box.below hb h.box.lt) h.le
theorem PSt.set (h : PSt q a c sz l i W) {j : Nat} {u : Value} (hu : u = .int .i64 (j : Int)) (hj : j ≤ l.length) : PSt q a c sz l j (W.setCell ⟨q, 1, none⟩ u) := by
  subst hu
  exact h.mv (Mv.set _ _ _ _).low (h.box.set_ 1 _) hj
/-- what the walk asks of it -/
theorem PSt.facts (h : PSt q a c sz l i W) : W.cell? ⟨q, 0, none⟩ = some (.slice a l.length c) ∧ W.cell? ⟨q, 1, none⟩ = some (.int .i64 (i : Int)) ∧ W.cell? ⟨q, 2, none⟩ = some (.int .i64 (sz : Int)) ∧ W.frozen? ⟨q, 1, none⟩ = false ∧ q < W.heap.size :=
  ⟨h.box.cell rfl, h.box.cell rfl, h.box.cell rfl, h.box.frozen 1, h.box.lt⟩
/-- the token at the place -/
theorem PSt.tok (h : PSt q a c sz l i W) {k : Nat} {t : Tok} (ht : l[k]? = some t) : ∃ b off, a = some ⟨b, off, none⟩ ∧ W.cell? ⟨b, off + k * 4, none⟩ = some (.int .i64 t.kind) ∧ W.cell? ⟨b, off + k * 4 + 1, none⟩ = some (.string (txt t.text)) ∧ W.cell? ⟨b, off + k * 4 + 2, none⟩ = some (.int .i64 t.num) ∧ W.cell? ⟨b, off + k * 4 + 3, none⟩ = some (.int .i64 t.place) ∧ t.ok := by
  obtain ⟨b, off, x, ha, _, hx, ⟨rfl, hok⟩, hc⟩ := h.toks.at_ ht
  refine ⟨b, off, ha, ?_, hc 1 _ rfl, hc 2 _ rfl, hc 3 _ rfl, hok⟩
  have := hc 0 _ rfl
  rwa [Nat.add_zero] at this
end
theorem txt_inj {s t : List Nat} (hs : Bytes s) (ht : Bytes t) (h : (txt s).toList = (txt t).toList) : s = t := by
  have h1 := (toList_inj _ _).1 h
  rw [← bs_txt hs, ← bs_txt ht, h1]
/-- tokens' texts are bytes -/
theorem PSt.bytes {q : Nat} {a : Option Addr} {c sz : Nat} {l : List Tok} {i : Nat} {W : World} (h : PSt q a c sz l i W) {k : Nat} {t : Tok} (ht : l[k]? = some t) : Bytes t.text := by
  obtain ⟨_, _, _, _, _, _, _, hok⟩ := h.tok ht
  exact hok.1
set_option maxRecDepth 100000 in
set_option maxHeartbeats 4000000 in
theorem p_next {q : Nat} {a : Option Addr} {c sz : Nat} {l : List Tok} {i : Nat} {W : World} (s : List Nat) (hs : Bytes s) (b : Bool) (hb : isT l i s = b) (h : PSt q a c sz l i W) :
    Calls Tryz.prog 88 #[.pointer (some ⟨q, 0, none⟩), .string (txt s)] W fun e w' => e = .returned (.bool b) ∧ Quiet W w' := by
  obtain ⟨f0, f1, f2, f3, f4⟩ := h.facts
  obtain ⟨n, hn⟩ : ∃ n, l.length = n := ⟨_, rfl⟩
  have hle := h.le
  have hfew := h.few
  rw [hn] at f0 hle hfew
  have n63 : n ≤ 9223372036854775807 := by omega
  by_cases hlt : i < n
  · obtain ⟨t, ht⟩ := get_some hn hlt
    obtain ⟨b0, off, rfl, t0, t1, _, _, hok⟩ := h.tok ht
    have hk := (h.good t (List.mem_iff_getElem?.2 ⟨i, ht⟩)).range
    have hB : b = (decide (4 ≤ t.kind) && decide (t.text = s)) := by rw [← hb]; unfold isT; rw [ht]
    obtain ⟨kd, hkd⟩ : ∃ k, t.kind = k := ⟨_, rfl⟩
    obtain ⟨tt, htt⟩ : ∃ k, t.text = k := ⟨_, rfl⟩
    have htb := hok.1
    rw [hkd] at t0 hk hB
    rw [htt] at t1 hB htb
    have HB := Lib.hid hB
    clear h hb hn ht hkd htt hok hB
    have dlt : decide (i < n) = true := by simpa using hlt
    by_cases hts : tt = s
    · subst hts
      by_cases h5 : kd = 5
      · subst h5
        have Hk := Lib.hid hk
        clear hk
        go_enter Tryz.func88, Tryz.ntmps88
        go_wp2_with fail
        go_quiet (fail)
        go_wp2_with fail
        go_ret
        exact ⟨by rw [HB.out]; simp, ⟨_, rfl⟩⟩
      · have e5 : (kd == 5) = false := by simpa using h5
        by_cases h4 : kd = 4
        · subst h4
          have Hk := Lib.hid hk
          clear hk h5
          go_enter Tryz.func88, Tryz.ntmps88
          go_wp2_with fail
          go_quiet (fail)
          go_wp2_with fail
          go_ret
          exact ⟨by rw [HB.out]; simp, ⟨_, rfl⟩⟩
        · have e4 : (kd == 4) = false := by simpa using h4
          have h3 : decide (4 ≤ kd) = false := by simp; omega
          have Hk := Lib.hid hk
          rw [h3] at HB
          clear hk h3
          go_enter Tryz.func88, Tryz.ntmps88
          go_wp2_with fail
          go_quiet (fail)
          go_wp2_with fail
          go_ret
          exact ⟨by rw [HB.out]; simp, ⟨_, rfl⟩⟩
    · have hne : ¬ (txt tt).toList = (txt s).toList := fun e => hts (txt_inj htb hs e)
      have hd : decide (tt = s) = false := by simpa using hts
      rw [hd, Bool.and_false] at HB
      clear hts hd htb hs
      by_cases h5 : kd = 5
      · subst h5
        have Hk := Lib.hid hk
        clear hk
        go_enter Tryz.func88, Tryz.ntmps88
        go_wp2_with fail
        go_quiet (fail)
        go_wp2_with fail
        go_ret
        exact ⟨by rw [HB.out]; try simp [hne], ⟨_, rfl⟩⟩
      · have e5 : (kd == 5) = false := by simpa using h5
        by_cases h4 : kd = 4
        · subst h4
          have Hk := Lib.hid hk
          clear hk h5
          go_enter Tryz.func88, Tryz.ntmps88
          go_wp2_with fail
          go_quiet (fail)
          go_wp2_with fail
          go_ret
          exact ⟨by rw [HB.out]; try simp [hne], ⟨_, rfl⟩⟩
        · have e4 : (kd == 4) = false := by simpa using h4
          have Hk := Lib.hid hk
          clear hk
          go_enter Tryz.func88, Tryz.ntmps88
          go_wp2_with fail
          go_quiet (fail)
          go_wp2_with fail
          go_ret
          exact ⟨by have hb := HB.out; subst hb; rfl, ⟨_, rfl⟩⟩
  · have hB : b = false := by rw [← hb]; unfold isT; rw [List.getElem?_eq_none (by omega)]
    obtain rfl : i = n := by omega
    have dlt : decide (i < i) = false := by simp
    have HB := Lib.hid hB
    clear h hb hn hB hlt
    go_enter Tryz.func88, Tryz.ntmps88
    go_wp2_with fail
    go_quiet (fail)
    go_wp2_with fail
    go_ret
    exact ⟨by have hb := HB.out; subst hb; rfl, ⟨_, rfl⟩⟩
end Go.Proofs.YtidkbodmiegbkaaGreatDoor
namespace Go.Proofs.YtidkbodmiegbkaaGreatDoor
set_option linter.unusedSimpArgs false
set_option linter.unusedVariables false
open Go.RowKit
/-- all blocks from one on stay -/
structure High (lo : Nat) (w w' : World) : Prop where
  size : w.heap.size ≤ w'.heap.size
  same : ∀ k, lo ≤ k → k < w.heap.size → w'.heap[k]? = w.heap[k]?
theorem High.refl (lo : Nat) (w : World) : High lo w w := ⟨Nat.le_refl _, fun _ _ _ => rfl⟩
theorem High.trans {lo : Nat} {a b c : World} (h : High lo a b) (k : High lo b c) : High lo a c :=
  ⟨Nat.le_trans h.size k.size, fun j h1 h2 => (k.same j h1 (Nat.lt_of_lt_of_le h2 h.size)).trans (h.same j h1 h2)⟩
theorem High.mono {lo lo' : Nat} {a b : World} (h : High lo a b) (hl : lo ≤ lo') : High lo' a b := ⟨h.size, fun k h1 h2 => h.same k (Nat.le_trans hl h1) h2⟩
theorem High.of_mv {q : Nat} {W W' : World} (h : Mv q W W') {lo : Nat} (hl : q < lo) : High lo W W' := ⟨h.low.size, fun k h1 h2 => h.high k (Nat.lt_of_lt_of_le hl h1) h2⟩
theorem High.of_below {W W' : World} {B : Nat} (h : Below B W W') (hB : W.heap.size ≤ B) (lo : Nat) : High lo W W' := ⟨h.size, fun k _ h2 => h.block k (Nat.lt_of_lt_of_le h2 hB)⟩
theorem Own1.stay {α : Type} {w w' : World} {lo size : Nat} {e : TypeId} {R : List Value → α → Prop} {v : Value} {l : List α} (h : Own1 w lo e size R v l) (hk : ∀ b, v.ownBlock = some b → b < w.heap.size → w'.heap[b]? = w.heap[b]?) : Own1 w' lo e size R v l := by
  obtain ⟨xs, h1, h2⟩ := h
  refine ⟨xs, ⟨h1.1, ?_⟩, h2⟩
  rcases h1.2 with r | ⟨g, cap, cur, r1, r2, r3, r4⟩
  · exact .inl r
  · have hg : g < w.heap.size := by
      rcases Nat.lt_or_ge g w.heap.size with hlt | hge
      · exact hlt
      · rw [Array.getElem?_eq_none hge] at r3; cases r3
    exact .inr ⟨g, cap, cur, r1, r2, (hk g (by rw [r1]; rfl) hg).trans r3, r4⟩
/-- a pointer to a block -/
def IsPtr : List Value → Nat → Prop := fun x g => x = [.pointer (some ⟨g, 0, none⟩)]
mutual
/-- a tree that lies in memory, in blocks that S allows -/
def TreeIn (w : World) (S : Nat → Prop) : Tr → Nat → Prop
  | .node k s n ks, g => S g ∧ ∃ (v : Value) (gs : List Nat), Blk w g 107 #[.int .i64 (k : Int), .string (txt s), .int .i64 n, .slice none 0 0, v] ∧ Own1 w 0 74 1 IsPtr v gs ∧ (∀ b, v.ownBlock = some b → S b) ∧ TreesIn w S ks gs
def TreesIn (w : World) (S : Nat → Prop) : List Tr → List Nat → Prop
  | [], gs => gs = []
  | t :: ts, gs => ∃ g gs', gs = g :: gs' ∧ TreeIn w S t g ∧ TreesIn w S ts gs'
end
/-- .. from block lo on -/
def TreeAt (w : World) (lo : Nat) (t : Tr) (g : Nat) : Prop := TreeIn w (fun k => lo ≤ k) t g
mutual
theorem TreeIn.stay {w w' : World} {S : Nat → Prop} (hk : ∀ k, S k → k < w.heap.size → w'.heap[k]? = w.heap[k]?) : ∀ {t : Tr} {g : Nat}, TreeIn w S t g → TreeIn w' S t g
  | .node k s n ks, g, h => by
    simp only [TreeIn] at h ⊢
    obtain ⟨h1, v, gs, h2, h3, h5, h4⟩ := h
    exact ⟨h1, v, gs, h2.keep (hk g h1 h2.lt), h3.stay (fun b hb hl => hk b (h5 b hb) hl), h5, TreesIn.stay hk h4⟩
theorem TreesIn.stay {w w' : World} {S : Nat → Prop} (hk : ∀ k, S k → k < w.heap.size → w'.heap[k]? = w.heap[k]?) : ∀ {ts : List Tr} {gs : List Nat}, TreesIn w S ts gs → TreesIn w' S ts gs
  | [], gs, h => by simp only [TreesIn] at h ⊢; exact h
  | t :: ts, gs, h => by
    simp only [TreesIn] at h ⊢
    obtain ⟨g, gs', h1, h2, h3⟩ := h
    exact ⟨g, gs', h1, h2.stay hk, TreesIn.stay hk h3⟩
end
mutual
theorem TreeIn.imp {w : World} {S S' : Nat → Prop} (hl : ∀ k, S k → k < w.heap.size → S' k) : ∀ {t : Tr} {g : Nat}, TreeIn w S t g → TreeIn w S' t g
  | .node k s n ks, g, h => by
    simp only [TreeIn] at h ⊢
    obtain ⟨h1, v, gs, h2, h3, h5, h4⟩ := h
    exact ⟨hl _ h1 h2.lt, v, gs, h2, h3, fun b hb => hl _ (h5 b hb) (h3.block b hb).2, TreesIn.imp hl h4⟩
theorem TreesIn.imp {w : World} {S S' : Nat → Prop} (hl : ∀ k, S k → k < w.heap.size → S' k) : ∀ {ts : List Tr} {gs : List Nat}, TreesIn w S ts gs → TreesIn w S' ts gs
  | [], gs, h => by simp only [TreesIn] at h ⊢; exact h
  | t :: ts, gs, h => by
    simp only [TreesIn] at h ⊢
    obtain ⟨g, gs', h1, h2, h3⟩ := h
    exact ⟨g, gs', h1, h2.imp hl, TreesIn.imp hl h3⟩
end
theorem TreesIn.app {w : World} {S : Nat → Prop} : ∀ {ts : List Tr} {gs : List Nat} {t : Tr} {g : Nat}, TreesIn w S ts gs → TreeIn w S t g → TreesIn w S (ts ++ [t]) (gs ++ [g])
  | [], gs, t, g, h, ht => by
    simp only [TreesIn] at h
    subst h
    simp only [List.nil_append, TreesIn]
    exact ⟨g, [], rfl, ht, rfl⟩
  | u :: ts, gs, t, g, h, ht => by
    simp only [TreesIn] at h
    obtain ⟨g', gs', rfl, h2, h3⟩ := h
    simp only [List.cons_append, TreesIn]
    exact ⟨g', gs' ++ [g], rfl, h2, TreesIn.app h3 ht⟩
theorem TreeAt.high {w w' : World} {lo : Nat} (hk : High lo w w') {t : Tr} {g : Nat} (h : TreeAt w lo t g) : TreeAt w' lo t g := TreeIn.stay (fun k h1 h2 => hk.same k h1 h2) h
theorem TreeAt.mono {w : World} {lo lo' : Nat} (hl : lo' ≤ lo) {t : Tr} {g : Nat} (h : TreeAt w lo t g) : TreeAt w lo' t g := TreeIn.imp (fun _ h1 _ => Nat.le_trans hl h1) h
theorem TreeIn.lo {w : World} {S : Nat → Prop} {t : Tr} {g : Nat} (h : TreeIn w S t g) : S g ∧ g < w.heap.size := by
  cases t with
  | node k s n ks =>
    simp only [TreeIn] at h
    obtain ⟨h1, v, gs, h2, _⟩ := h
    exact ⟨h1, h2.lt⟩
theorem p_of (k : Nat) (s : List Nat) (a : Option Addr) (n c : Nat) (W : World) : Calls Tryz.prog 78 #[.int .i64 (k : Int), .string (txt s), .slice a n c] W fun e w' =>
    e = .returned (.pointer (some ⟨W.heap.size, 0, none⟩)) ∧ w' = W.alloc (.cells #[.int .i64 (k : Int), .string (txt s), .int .i64 0, .slice none 0 0, .slice a n c] 107) := by
  go_enter Tryz.func78, Tryz.ntmps78
  go_wp2_with fail
  go_ret
  exact ⟨rfl, rfl⟩
end Go.Proofs.YtidkbodmiegbkaaGreatDoor
namespace Go.Proofs.YtidkbodmiegbkaaGreatDoor
set_option linter.unusedSimpArgs false
set_option linter.unusedVariables false
open Go.RowKit
section
variable {q : Nat} {a : Option Addr} {c sz : Nat} {l : List Tok} {i : Nat} {W : World}
theorem PSt.quiet {W' : World} (h : PSt q a c sz l i W) (hq : Quiet W W') : PSt q a c sz l i W' := h.keep (hq.below _)
theorem Mv.quiet {W' : World} (hq : Quiet W W') : Mv q W W' := by
  obtain ⟨n, rfl⟩ := hq
  exact ⟨below_drewN (Below.refl _ _) n, fun k _ _ => rfl⟩
/-- a step on -/
theorem PSt.step (h : PSt q a c sz l i W) {j : Nat} {u : Value} (hu : u = .int .i64 (j : Int)) (hj : j ≤ l.length) (n : Nat) : Mv q W ((W.drewN n).setCell ⟨q, 1, none⟩ u) ∧ PSt q a c sz l j ((W.drewN n).setCell ⟨q, 1, none⟩ u) :=
  ⟨(Mv.quiet ⟨n, rfl⟩).trans (Mv.set _ _ _ _), (h.quiet ⟨n, rfl⟩).set hu hj⟩
set_option maxRecDepth 100000 in
set_option maxHeartbeats 4000000 in
theorem p_give (h : PSt q a c sz l i W) : Calls Tryz.prog 34 #[.pointer (some ⟨q, 0, none⟩)] W fun e w' => e = .panicked (thrownE (placeAt l sz i)) ∧ Quiet W w' := by
  obtain ⟨f0, f1, f2, f3, f4⟩ := h.facts
  obtain ⟨n, hn⟩ : ∃ n, l.length = n := ⟨_, rfl⟩
  have hle := h.le
  have hfew := h.few
  rw [hn] at f0 hle hfew
  have n63 : n ≤ 9223372036854775807 := by omega
  have i0 : (0 : Int) ≤ (i : Int) := Int.natCast_nonneg _
  by_cases hlt : i < n
  · obtain ⟨t, ht⟩ := get_some hn hlt
    obtain ⟨b0, off, rfl, t0, t1, t2, t3, hok⟩ := h.tok ht
    have hB : placeAt l sz i = t.place := by unfold placeAt; rw [ht]
    obtain ⟨pl, hpl⟩ : ∃ k, t.place = k := ⟨_, rfl⟩
    rw [hpl] at t3 hB
    have HB := Lib.hid hB
    have dlt : decide (i < n) = true := by simpa using hlt
    have dlt2 : (i : Int) < (n : Int) := by omega
    clear h hn ht hpl hok hB t0 t1 t2
    go_enter Tryz.func34, Tryz.ntmps34
    go_wp2_with fail
    go_quiet (fail)
    go_wp2_with fail
    generalize hwq : World.drewN W _ = W1
    have g0 : W1.cell? ⟨q, 0, none⟩ = some (.slice (some ⟨b0, off, none⟩) n c) := by rw [← hwq]; exact f0
    have g1 : W1.cell? ⟨q, 1, none⟩ = some (.int .i64 (i : Int)) := by rw [← hwq]; exact f1
    have g3 : W1.cell? ⟨b0, off + i * 4 + 3, none⟩ = some (.int .i64 pl) := by rw [← hwq]; exact t3
    have QW : Hid (Quiet W W1) := Lib.hid ⟨_, hwq.symm⟩
    clear hwq f0 f1 f2 f3 f4 t3
    go_still_tail 13, (by kernel_rfl)
    change wpList _ _ _ _ _ W1.drew
    go_wp2_with fail
    exact ⟨rfl, by rw [HB.out]; rfl, QW.out.drewN 1⟩
  · obtain rfl : i = n := by omega
    have hB : placeAt l sz i = (sz : Int) := by unfold placeAt; rw [List.getElem?_eq_none (by omega)]
    have HB := Lib.hid hB
    have dlt : decide (i < i) = false := by simp
    clear h hn hB hlt
    go_enter Tryz.func34, Tryz.ntmps34
    go_wp2_with fail
    go_quiet (fail)
    rename_i hK
    refine hK _ _ ?_
    go_wp2_with fail
    exact ⟨rfl, by rw [HB.out]; rfl, ⟨_, rfl⟩⟩
set_option maxRecDepth 100000 in
set_option maxHeartbeats 4000000 in
theorem p_want_yes (s : List Nat) (hs : Bytes s) (ht : isT l i s = true) (h : PSt q a c sz l i W) : Calls Tryz.prog 111 #[.pointer (some ⟨q, 0, none⟩), .string (txt s)] W fun e w' => e = .returned (.tuple #[]) ∧ Mv q W w' ∧ PSt q a c sz l (i + 1) w' := by
  obtain ⟨f0, f1, f2, f3, f4⟩ := h.facts
  have hlt : i + 1 ≤ l.length := isT_lt ht
  have hfew := h.few
  have i63 : (i : Int) ≤ 5000 := by omega
  have i0 : (0 : Int) ≤ (i : Int) := Int.natCast_nonneg _
  have H := Lib.hid h
  have HN := Lib.hid (p_next s hs true ht h)
  clear h ht hfew
  go_enter Tryz.func111, Tryz.ntmps111
  go_wp2_with (go_at_call 88; (with_reducible refine HN.out.mono ?_); rintro e w1 ⟨rfl, nq, rfl⟩)
  go_end0
  exact ⟨rfl, H.out.step (j := i + 1) (by go_num) hlt nq⟩
set_option maxRecDepth 100000 in
set_option maxHeartbeats 4000000 in
theorem p_want_no (s : List Nat) (hs : Bytes s) (ht : isT l i s = false) (h : PSt q a c sz l i W) : Calls Tryz.prog 111 #[.pointer (some ⟨q, 0, none⟩), .string (txt s)] W fun e w' => e = .panicked (thrownE (placeAt l sz i)) ∧ Quiet W w' := by
  have H := Lib.hid h
  have HN := Lib.hid (p_next s hs false ht h)
  clear h ht
  go_enter Tryz.func111, Tryz.ntmps111
  go_wp2_with (first
    | (go_at_call 88; (with_reducible refine HN.out.mono ?_); rintro e w1 ⟨rfl, nq, rfl⟩; have Q1 : Hid (Quiet W (W.drewN nq)) := Lib.hid ⟨nq, rfl⟩)
    | (go_at_call 34; (with_reducible refine (p_give (H.out.quiet Q1.out)).mono ?_); rintro e w2 ⟨rfl, q2⟩; have Q2 := Lib.hid (Q1.out.trans q2); clear q2))
  exact ⟨rfl, rfl, Q2.out⟩
set_option maxRecDepth 100000 in
set_option maxHeartbeats 4000000 in
theorem p_name_yes {t : Tok} (ht : l[i]? = some t) (hk : t.kind = 3) (h : PSt q a c sz l i W) : Calls Tryz.prog 106 #[.pointer (some ⟨q, 0, none⟩)] W fun e w' => e = .returned (.string (txt t.text)) ∧ Mv q W w' ∧ PSt q a c sz l (i + 1) w' := by
  obtain ⟨f0, f1, f2, f3, f4⟩ := h.facts
  have hfew := h.few
  have hlt := (List.getElem?_eq_some_iff.1 ht).1
  obtain ⟨b0, off, rfl, t0, t1, _, _, hok⟩ := h.tok ht
  rw [hk] at t0
  have H := Lib.hid h
  obtain ⟨n, hn⟩ : ∃ n, l.length = n := ⟨_, rfl⟩
  have Hn := Lib.hid hn
  rw [hn] at f0 hlt hfew
  have n63 : n ≤ 9223372036854775807 := by omega
  have i0 : (0 : Int) ≤ (i : Int) := Int.natCast_nonneg _
  have i5 : (i : Int) ≤ 5000 := by omega
  have dlt : ((i : Int) == (n : Int)) = false := by simp; omega
  have dlt2 : (i : Int) < (n : Int) := by omega
  obtain ⟨tt, htt⟩ : ∃ k, t.text = k := ⟨_, rfl⟩
  rw [htt] at t1 ⊢
  have HTT := Lib.hid htt
  have HT := Lib.hid ht
  clear h ht hk hn hok htt
  go_enter Tryz.func106, Tryz.ntmps106
  go_wp2_with fail
  go_quiet (fail)
  rename_i nq
  go_wp2_with fail
  have hS := H.out.step (j := i + 1) (u := .int .i64 ((i : Int) + 1)) (by go_num) (by rw [Hn.out]; omega)
  generalize hwq : World.setCell _ _ _ = W1
  have hS1 := hS nq
  rw [hwq] at hS1
  obtain ⟨g0, g1, g2, g3, g4⟩ := hS1.2.facts
  obtain ⟨b1, o1, e1, t0', t1', _, _, _⟩ := hS1.2.tok HT.out
  injection e1 with e1
  injection e1 with e1 e2
  subst e1 e2
  rw [HTT.out] at t1'
  rw [Hn.out] at g0
  have HS := Lib.hid hS1
  have ws : IntKind.i64.wrap ((i : Int) + 1 - 1) = (i : Int) := by rw [IntKind.wrap_i64]; omega
  clear hwq hS hS1 f0 f1 f2 f3 f4 t0 t1 t0' g2 g3 g4
  have g1' : W1.cell? ⟨q, 1, none⟩ = some (.int .i64 ((i : Int) + 1)) := g1
  clear g1
  go_quiet (fail)
  go_wp2_with fail
  go_ret
  exact ⟨rfl, HS.out.1.trans (Mv.quiet ⟨_, rfl⟩), HS.out.2.quiet ⟨_, rfl⟩⟩
set_option maxRecDepth 100000 in
set_option maxHeartbeats 4000000 in
theorem p_name_no (hk : ∀ t, l[i]? = some t → t.kind ≠ 3) (h : PSt q a c sz l i W) : Calls Tryz.prog 106 #[.pointer (some ⟨q, 0, none⟩)] W fun e w' => e = .panicked (thrownE (placeAt l sz i)) ∧ Quiet W w' := by
  obtain ⟨f0, f1, f2, f3, f4⟩ := h.facts
  have hfew := h.few
  have hle := h.le
  have H := Lib.hid h
  obtain ⟨n, hn⟩ : ∃ n, l.length = n := ⟨_, rfl⟩
  rw [hn] at f0 hle hfew
  have n63 : n ≤ 9223372036854775807 := by omega
  have i0 : (0 : Int) ≤ (i : Int) := Int.natCast_nonneg _
  by_cases hlt : i < n
  · obtain ⟨t, ht⟩ := get_some hn hlt
    obtain ⟨b0, off, rfl, t0, _, _, _, _⟩ := h.tok ht
    have hk3 := hk t ht
    obtain ⟨kd, hkd⟩ : ∃ k, t.kind = k := ⟨_, rfl⟩
    rw [hkd] at t0 hk3
    have dlt : ((i : Int) == (n : Int)) = false := by simp; omega
    have dlt2 : (i : Int) < (n : Int) := by omega
    have d3 : (kd != 3) = true := by simpa using hk3
    have d4 : (kd == 3) = false := by simpa using hk3
    clear h ht hk hn hkd hk3
    go_enter Tryz.func106, Tryz.ntmps106
    go_wp2_with fail
    go_quiet (fail)
    rename_i nq
    have Q1 : Hid (Quiet W (W.drewN nq)) := Lib.hid ⟨nq, rfl⟩
    go_wp2_with (first
      | (go_at_call 34; (with_reducible refine (p_give (H.out.quiet Q1.out)).mono ?_); rintro e w2 ⟨rfl, q2⟩; have Q2 := Lib.hid (Q1.out.trans q2); clear q2))
    exact ⟨rfl, rfl, Q2.out⟩
  · obtain rfl : i = n := by omega
    clear h hk hlt hn
    go_enter Tryz.func106, Tryz.ntmps106
    go_wp2_with fail
    go_quiet (fail)
    rename_i nq
    have Q1 : Hid (Quiet W (W.drewN nq)) := Lib.hid ⟨nq, rfl⟩
    go_wp2_with (first
      | (go_at_call 34; (with_reducible refine (p_give (H.out.quiet Q1.out)).mono ?_); rintro e w2 ⟨rfl, q2⟩; have Q2 := Lib.hid (Q1.out.trans q2); clear q2))
    exact ⟨rfl, rfl, Q2.out⟩
end
end Go.Proofs.YtidkbodmiegbkaaGreatDoor
namespace Go.Proofs.YtidkbodmiegbkaaGreatDoor
set_option linter.unusedSimpArgs false
set_option linter.unusedVariables false
open Go.RowKit
theorem find_drop1 {α : Type} {p : α → Bool} {l : List α} {k : Nat} {m : α} (h : l[k]? = some m) : (l.drop k).find? p = if p m = true then some m else (l.drop (k + 1)).find? p := by
  have hk := (List.getElem?_eq_some_iff.1 h).1
  rw [List.drop_eq_getElem_cons hk, (List.getElem?_eq_some_iff.1 h).2, List.find?_cons]
  cases p m <;> rfl
theorem signs_index (k : Nat) (hk : k < 15) (W : World) : ∃ x, signsL[k]? = some x ∧ (Instr.index 144 (.agg signsV) (.int .i64 (k : Int))).run Tryz.prog W = .ok (.agg #[.string (txt x.1), .int .i64 (x.2.1 : Int), .int .i64 (x.2.2 : Int)]) W := by
  rcases k with _ | _ | _ | _ | _ | _ | _ | _ | _ | _ | _ | _ | _ | _ | _ | k
  all_goals first | omega | exact ⟨_, rfl, by kernel_rfl⟩
/-- the test of one sign -/
def signP (l : List Tok) (n i : Nat) (x : List Nat × Nat × Nat) : Bool := decide (x.2.2 = n) && isT l i x.1
theorem signK_find (l : List Tok) (n i : Nat) : signK l n i = match signsL.find? (signP l n i) with | some x => x.2.1 | none => 0 := rfl
section
variable {q : Nat} {a : Option Addr} {c sz : Nat} {l : List Tok} {i : Nat} {W : World}
theorem Mv.setNew {W X : World} (h : Mv q W X) {p : Addr} (u : Value) (hq : q ≤ p.block) (hB : W.heap.size ≤ p.block) : Mv q W (X.setCell p u) :=
  ⟨h.low.setCell hq u, fun k h1 h2 => (Below.heap_setCell X p u k (by omega)).trans (h.high k h1 h2)⟩
theorem PSt.setFar (h : PSt q a c sz l i W) {p : Addr} (u : Value) (hp : q < p.block) : PSt q a c sz l i (W.setCell p u) :=
  h.mv ((Below.refl q W).setCell (Nat.le_of_lt hp) u) (h.box.far (Nat.ne_of_lt hp) u) h.le
/-- what it answers -/
def SignIs (q : Nat) (a : Option Addr) (c sz : Nat) (l : List Tok) (i : Nat) (W : World) : Option (List Nat × Nat × Nat) → Ending → World → Prop
  | none, e, w' => e = .returned (.tuple #[.agg #[.string ByteArray.empty, .int .i64 0, .int .i64 0], .bool false]) ∧ Mv q W w' ∧ PSt q a c sz l i w'
  | some x, e, w' => e = .returned (.tuple #[.agg #[.string (txt x.1), .int .i64 (x.2.1 : Int), .int .i64 (x.2.2 : Int)], .bool true]) ∧ Mv q W w' ∧ PSt q a c sz l (i + 1) w'
set_option maxRecDepth 100000 in
set_option maxHeartbeats 8000000 in
theorem p_sign0 (n : Nat) (h : PSt q a c sz l i W) (R : Option (List Nat × Nat × Nat)) (hR : signsL.find? (signP l n i) = R) :
    Calls Tryz.prog 77 #[.pointer (some ⟨q, 0, none⟩), .int .i64 (n : Int)] W fun e w' => SignIs q a c sz l i W R e w' := by
  obtain ⟨tt, fr, hg1⟩ := signs_block h.signs
  have H := Lib.hid h
  have HR : Hid ((signsL.drop 0).find? (signP l n i) = R) := Lib.hid hR
  have hg2 : ∀ v, (W.alloc (.cells v 132)).heap[2]? = some (.cells signsV tt fr) := fun v => ((Below.refl _ _).alloc (Nat.le_refl _) _).block 2 (Nat.lt_trans h.low h.box.lt) |>.trans hg1
  clear h hR hg1
  go_enter Tryz.func77, Tryz.ntmps77
  go_wp2_with (refine wpList_load_row rfl 144 _ rfl 2 rfl tt _ fr _ (hg2 _) Tryz.underlying144 rfl (by kernel_rfl) ?_)
  generalize hWA : World.alloc W _ = WA
  have BA : Hid (Below W.heap.size W WA) := Lib.hid (by rw [← hWA]; exact (Below.refl _ _).alloc (Nat.le_refl _) _)
  have KA : Hid (Blk WA W.heap.size 132 #[.string ByteArray.empty, .int .i64 0, .int .i64 0]) := Lib.hid (by rw [← hWA]; exact Blk.new _ _ _)
  have HA : Hid (PSt q a c sz l i WA) := Lib.hid (H.out.keep BA.out)
  have lq := H.out.box.lt
  obtain ⟨B, hB⟩ : ∃ B, W.heap.size = B := ⟨_, rfl⟩
  rw [hB] at lq KA
  rw [hB]
  have lqA := KA.out.lt
  have HB := Lib.hid hB
  have hfew := H.out.few
  have hle := H.out.le
  have i5 : (i : Int) ≤ 5000 := by omega
  have i0 : (0 : Int) ≤ (i : Int) := Int.natCast_nonneg _
  clear hWA hg2 hB hfew hle
  go_loopw [7, 9] (fun _ j wr => ∃ k : Nat, k ≤ 15 ∧ j = .int .i64 (k : Int) ∧ Hid ((signsL.drop k).find? (signP l n i) = R) ∧ Hid (Below WA.heap.size WA wr)) (fun _ j _ => 15 - (intOf j).toNat)
  case atStart => exact ⟨0, by omega, by go_num, HR, Lib.hid (Below.refl _ _)⟩
  case round =>
    obtain ⟨k, hk, rfl, hu, hw⟩ := hrel
    have Hw := hw
    clear hw
    have b1 : (0 : Int) ≤ (k : Int) := Int.natCast_nonneg _
    have KW : Blk wr B 132 #[.string ByteArray.empty, .int .i64 0, .int .i64 0] := KA.out.below Hw.out lqA
    have z0 : wr.cell? ⟨B, 0, none⟩ = some (.string ByteArray.empty) := KW.cell rfl
    have z1 : wr.cell? ⟨B, 1, none⟩ = some (.int .i64 0) := KW.cell rfl
    have z2 : wr.cell? ⟨B, 2, none⟩ = some (.int .i64 0) := KW.cell rfl
    have zf0 : wr.frozen? ⟨B, 0, none⟩ = false := KW.frozen 0
    have zf1 : wr.frozen? ⟨B, 1, none⟩ = false := KW.frozen 1
    have zf2 : wr.frozen? ⟨B, 2, none⟩ = false := KW.frozen 2
    have lB := KW.lt
    have HKW := Lib.hid KW
    have HP : Hid (PSt q a c sz l i wr) := Lib.hid (HA.out.keep Hw.out)
    obtain ⟨f0, f1, f2, f3, f4⟩ := HP.out.facts
    clear KW
    by_cases hlt : k < 15
    · obtain ⟨x, hx, _⟩ := signs_index k hlt wr
      have hidx : ∀ W, (Instr.index 144 (.agg signsV) (.int .i64 (k : Int))).run Tryz.prog W = .ok (.agg #[.string (txt x.1), .int .i64 (x.2.1 : Int), .int .i64 (x.2.2 : Int)]) W := fun W => by
        obtain ⟨x', hx', h⟩ := signs_index k hlt W
        rw [hx] at hx'
        injection hx' with hx'
        subst hx'
        exact h
      have hby : Bytes x.1 := by
        have : ∀ m ∈ signsL, ∀ n ∈ m.1, n < 256 := by decide
        exact this x (List.mem_iff_getElem?.2 ⟨k, hx⟩)
      have hf := find_drop1 (p := signP l n i) hx
      have hv := hu.out
      rw [hf] at hv
      obtain ⟨xt, xk, xl⟩ := x
      have Hby := Lib.hid hby
      by_cases hl : xl = n
      · subst hl
        obtain ⟨b, hb⟩ : ∃ b, isT l i xt = b := ⟨_, rfl⟩
        have hsp : signP l xl i (xt, xk, xl) = b := by rw [← hb]; simp [signP]
        rw [hsp] at hv
        have e1 : ((xl : Int) == (xl : Int)) = true := by simp
        have HN := Lib.hid (fun v => p_next xt hby b hb (HP.out.keep (((Below.refl _ _).alloc (Nat.le_refl _) (.cells v 132)))))
        cases b with
        | true =>
          rw [if_pos rfl] at hv
          have HV := Lib.hid hv
          have ilt : Hid (i + 1 ≤ l.length) := Lib.hid (isT_lt hb)
          clear hu hv hx hby hf hb hsp
          go_wp2_with (first
            | (go_at_call 88; (with_reducible refine (HN.out _).mono ?_); rintro e w1 ⟨rfl, nq, rfl⟩))
          have vm := Mv.of_below (q := q) (BA.out.trans (Hw.out.mono (by have := HB.out; omega))) (by have := HB.out; omega)
          have vm2 := vm.trans (Mv.of_below (q := q) (((Below.refl wr.heap.size wr).alloc (Nat.le_refl _) (.cells #[.string (txt xt), .int .i64 (xk : Int), .int .i64 (xl : Int)] 132))) (by omega))
          have hs2 := HP.out.keep (((Below.refl wr.heap.size wr).alloc (Nat.le_refl _) (.cells #[.string (txt xt), .int .i64 (xk : Int), .int .i64 (xl : Int)] 132)))
          have st := hs2.step (j := i + 1) (u := .int .i64 ((i : Int) + 1)) (by go_num) ilt.out nq
          have hBW := HB.out
          have hv := HV.out
          subst hv
          have hmv := (((vm2.trans st.1).setNew (p := ⟨B, 0, none⟩) (.string (txt xt)) (by show q ≤ B; omega) (by show W.heap.size ≤ B; omega)).setNew (p := ⟨B, 1, none⟩) (.int .i64 (xk : Int)) (by show q ≤ B; omega) (by show W.heap.size ≤ B; omega)).setNew (p := ⟨B, 2, none⟩) (.int .i64 (xl : Int)) (by show q ≤ B; omega) (by show W.heap.size ≤ B; omega)
          have hps := ((st.2.setFar (p := ⟨B, 0, none⟩) (.string (txt xt)) (by show q < B; omega)).setFar (p := ⟨B, 1, none⟩) (.int .i64 (xk : Int)) (by show q < B; omega)).setFar (p := ⟨B, 2, none⟩) (.int .i64 (xl : Int)) (by show q < B; omega)
          have hka : Blk ((wr.alloc (.cells #[.string (txt xt), .int .i64 (xk : Int), .int .i64 (xl : Int)] 132)).drewN nq) B 132 #[.string ByteArray.empty, .int .i64 0, .int .i64 0] := HKW.out.alloc _
          have hkb : Blk _ B 132 _ := (((hka.far (p := ⟨q, 1, none⟩) (by show B ≠ q; omega) (.int .i64 ((i : Int) + 1))).set_ 0 (.string (txt xt))).set_ 1 (.int .i64 (xk : Int))).set_ 2 (.int .i64 (xl : Int))
          generalize hwf : World.setCell (World.setCell (World.setCell _ _ _) _ _) _ _ = wf
          have hmv' : Mv q W wf := by rw [← hwf]; exact hmv
          have hps' : PSt q a c sz l (i + 1) wf := by rw [← hwf]; exact hps
          have c0 : wf.cell? ⟨B, 0, none⟩ = some (.string (txt xt)) := by rw [← hwf]; exact hkb.cell rfl
          have c1 : wf.cell? ⟨B, 1, none⟩ = some (.int .i64 (xk : Int)) := by rw [← hwf]; exact hkb.cell rfl
          have c2 : wf.cell? ⟨B, 2, none⟩ = some (.int .i64 (xl : Int)) := by rw [← hwf]; exact hkb.cell rfl
          clear hwf hmv hps hkb vm vm2 hs2 st
          refine bodyPost_ret (v := .tuple #[.agg #[.string (txt xt), .int .i64 (xk : Int), .int .i64 (xl : Int)], .bool true]) (by simp [results, Tryz.results77, go_sem, c0, c1, c2]) rfl ?_
          exact ⟨rfl, hmv', hps'⟩
        | false =>
          rw [if_neg (by simp)] at hv
          have HV := Lib.hid hv
          clear hu hv hx hby hf hb hsp
          go_wp2_with (first
            | (go_at_call 88; (with_reducible refine (HN.out _).mono ?_); rintro e w1 ⟨rfl, nq, rfl⟩))
          go_roundw
          case rel => exact ⟨k + 1, by omega, by go_num, HV, Lib.hid (below_drewN (Hw.out.alloc Hw.out.size _) _)⟩
          case measure => simp [intOf]; omega
      · have hsp : signP l n i (xt, xk, xl) = false := by simp [signP, hl]
        rw [hsp, if_neg (by simp)] at hv
        have HV := Lib.hid hv
        have e1 : ((xl : Int) == (n : Int)) = false := by simp; omega
        clear hu hv hx hby hf hsp hl
        go_wp2_with fail
        go_roundw
        case rel => exact ⟨k + 1, by omega, by go_num, HV, Lib.hid (Hw.out.alloc Hw.out.size _)⟩
        case measure => simp [intOf]; omega
    · have hk15 : k = 15 := by omega
      subst hk15
      have hv := hu.out
      rw [show (signsL.drop 15) = [] from rfl, List.find?_nil] at hv
      subst hv
      have hdec : decide (((15 : Nat) : Int) < 15) = false := by decide
      clear hu
      go_wp2_with fail
      have vm := Mv.of_below (q := q) (BA.out.trans (Hw.out.mono (by have := HB.out; omega))) (by have := HB.out; omega)
      have hBW := HB.out
      have hmv := ((vm.setNew (p := ⟨B, 0, none⟩) (.string ByteArray.empty) (by show q ≤ B; omega) (by show W.heap.size ≤ B; omega)).setNew (p := ⟨B, 1, none⟩) (.int .i64 0) (by show q ≤ B; omega) (by show W.heap.size ≤ B; omega)).setNew (p := ⟨B, 2, none⟩) (.int .i64 0) (by show q ≤ B; omega) (by show W.heap.size ≤ B; omega)
      have hps := ((HP.out.setFar (p := ⟨B, 0, none⟩) (.string ByteArray.empty) (by show q < B; omega)).setFar (p := ⟨B, 1, none⟩) (.int .i64 0) (by show q < B; omega)).setFar (p := ⟨B, 2, none⟩) (.int .i64 0) (by show q < B; omega)
      have hkb : Blk _ B 132 _ := ((HKW.out.set_ 0 (.string ByteArray.empty)).set_ 1 (.int .i64 0)).set_ 2 (.int .i64 0)
      generalize hwf : World.setCell (World.setCell (World.setCell _ _ _) _ _) _ _ = wf
      have hmv' : Mv q W wf := by rw [← hwf]; exact hmv
      have hps' : PSt q a c sz l i wf := by rw [← hwf]; exact hps
      have c0 : wf.cell? ⟨B, 0, none⟩ = some (.string ByteArray.empty) := by rw [← hwf]; exact hkb.cell rfl
      have c1 : wf.cell? ⟨B, 1, none⟩ = some (.int .i64 0) := by rw [← hwf]; exact hkb.cell rfl
      have c2 : wf.cell? ⟨B, 2, none⟩ = some (.int .i64 0) := by rw [← hwf]; exact hkb.cell rfl
      clear hwf hmv hps hkb vm z0 z1 z2
      refine bodyPost_ret (v := .tuple #[.agg #[.string ByteArray.empty, .int .i64 0, .int .i64 0], .bool false]) (by simp [results, Tryz.results77, go_sem, c0, c1, c2]) rfl ?_
      exact ⟨rfl, hmv', hps'⟩
end
end Go.Proofs.YtidkbodmiegbkaaGreatDoor
namespace Go.Proofs.YtidkbodmiegbkaaGreatDoor
set_option linter.unusedSimpArgs false
set_option linter.unusedVariables false
open Go.RowKit
section
variable {q : Nat} {a : Option Addr} {c sz : Nat} {l : List Tok} {i : Nat} {W : World}
/-- what a function of the parser comes to, as the grammar says -/
def Reads (q : Nat) (a : Option Addr) (c sz : Nat) (l : List Tok) (W : World) : PR → Ending → World → Prop
  | .ok t j, e, w' => (∃ g, e = .returned (.pointer (some ⟨g, 0, none⟩)) ∧ TreeAt w' W.heap.size t g) ∧ Mv q W w' ∧ PSt q a c sz l j w'
  | .no j, e, w' => e = .panicked (thrownE (placeAt l sz j)) ∧ Mv q W w'
  | .out, _, _ => False
/-- a function reads as the grammar says, wherever that is told -/
def LevelC (q : Nat) (a : Option Addr) (c sz : Nat) (l : List Tok) (fn : FuncId) (rd : Nat → PR) : Prop :=
  ∀ (i : Nat) (W : World), PSt q a c sz l i W → rd i ≠ .out → Calls Tryz.prog fn #[.pointer (some ⟨q, 0, none⟩)] W (Reads q a c sz l W (rd i))
theorem Mv.cell {W W' : World} (h : Mv q W W') {p : Addr} {u : Value} (hp : q < p.block) (hc : W.cell? p = some u) : W'.cell? p = some u := by
  have hlt : p.block < W.heap.size := cell_lt hc
  have hh := h.high p.block hp hlt
  unfold World.cell? at hc ⊢
  rw [hh]
  exact hc
/-- two trees under a node -/
theorem node2 {w : World} {lo k g1 g2 : Nat} {t1 t2 : Tr} (hlo : lo ≤ w.heap.size) (h1 : TreeAt w lo t1 g1) (h2 : TreeAt w lo t2 g2) :
    TreeAt ((w.alloc (.cells #[.pointer (some ⟨g1, 0, none⟩), .pointer (some ⟨g2, 0, none⟩)] 74)).alloc (.cells #[.int .i64 (k : Int), .string (txt []), .int .i64 0, .slice none 0 0, .slice (some ⟨w.heap.size, 0, none⟩) 2 2] 107)) lo (.node k [] 0 [t1, t2]) (w.heap.size + 1) := by
  have hb : Below w.heap.size w ((w.alloc (.cells #[.pointer (some ⟨g1, 0, none⟩), .pointer (some ⟨g2, 0, none⟩)] 74)).alloc (.cells #[.int .i64 (k : Int), .string (txt []), .int .i64 0, .slice none 0 0, .slice (some ⟨w.heap.size, 0, none⟩) 2 2] 107)) :=
    ((Below.refl _ _).alloc (Nat.le_refl _) _).alloc (by simp) _
  have hi := High.of_below hb (Nat.le_refl _) lo
  simp only [TreeAt, TreeIn, TreesIn]
  refine ⟨by omega, _, [g1, g2], Blk.new_ (by simp) _ _, ⟨[.pointer (some ⟨g1, 0, none⟩), .pointer (some ⟨g2, 0, none⟩)], ⟨rfl, .inr ⟨w.heap.size, 2, _, rfl, Nat.zero_le _, (Blk.new w 74 #[.pointer (some ⟨g1, 0, none⟩), .pointer (some ⟨g2, 0, none⟩)]).alloc _, Nat.le_refl _, by unfold maxLen; simp, by simp, by simp⟩⟩, rfl, fun j y hy => ?_⟩, (fun b hb => by simp [Value.ownBlock] at hb; omega), g1, [g2], rfl, h1.high hi, g2, [], rfl, h2.high hi, rfl⟩
  rcases j with _ | _ | j
  · injection hy with hy; subst hy; rfl
  · injection hy with hy; subst hy; rfl
  · simp at hy
/-- a level of the grammar, above the one below it -/
def rowR (l : List Tok) (f n i : Nat) : PR := (pL l f (n + 1) i).bind fun t j => pR l f n t j
set_option maxRecDepth 100000 in
set_option maxHeartbeats 8000000 in
theorem p_row (n f : Nat) (fB : FuncId) (once : Bool) (honce : once = decide (n = 4))
    (hcall : ∀ args w, (callFunc fB args).run Tryz.prog w = .ok (.enter fB args) w)
    (HB : ∀ f', f' ≤ f → LevelC q a c sz l fB (fun i => pL l f' (n + 1) i)) (h : PSt q a c sz l i W) (hr : rowR l f n i ≠ .out) :
    Calls Tryz.prog 60 #[.pointer (some ⟨q, 0, none⟩), .int .i64 (n : Int), .func (.func fB) #[.pointer (some ⟨q, 0, none⟩)] #[], .bool once] W (Reads q a c sz l W (rowR l f n i)) := by
  obtain ⟨r, hr0⟩ : ∃ r, rowR l f n i = r := ⟨_, rfl⟩
  rw [hr0] at hr ⊢
  unfold rowR at hr0
  have H := Lib.hid h
  have HBf : Hid (pL l f (n + 1) i ≠ .out → Calls Tryz.prog fB #[.pointer (some ⟨q, 0, none⟩)] W (Reads q a c sz l W (pL l f (n + 1) i))) := Lib.hid (HB f (Nat.le_refl _) i W h)
  have HBs := Lib.hid (fun (f' : Nat) (hf : f' ≤ f) (i : Nat) (X : World) (hX : PSt q a c sz l i X) (hne : pL l f' (n + 1) i ≠ .out) => (show Calls Tryz.prog fB #[.pointer (some ⟨q, 0, none⟩)] X (Reads q a c sz l X (pL l f' (n + 1) i)) from HB f' hf i X hX hne))
  have HO := Lib.hid honce
  have QL := Lib.hid h.box.lt
  clear HB h honce
  cases hb : pL l f (n + 1) i with
  | out => rw [hb] at hr0; exact absurd hr0.symm hr
  | no j =>
    rw [hb] at hr0 HBf
    have HF := Lib.hid (HBf.out (by simp))
    have hr1 : PR.no j = r := hr0
    subst hr1
    clear hb hr0 hr HBf
    go_enter Tryz.func60, Tryz.ntmps60
    go_wp2_with (first
      | (refine HF.out.mono ?_; rintro e w1 ⟨rfl, h1⟩; have M1 := Lib.hid h1; clear h1))
    exact ⟨rfl, rfl, M1.out⟩
  | ok t j =>
    rw [hb] at hr0 HBf
    have HF := Lib.hid (HBf.out (by simp))
    have hr1 : pR l f n t j = r := hr0
    have HR := Lib.hid hr1
    have HNE := Lib.hid hr
    clear hb hr0 hr HBf hr1
    go_enter Tryz.func60, Tryz.ntmps60
    go_wp2_with (first
      | (refine HF.out.mono ?_; rintro e w1 ⟨⟨g1, rfl, h1⟩, h2, h3⟩; have T1 := Lib.hid h1; have M1 := Lib.hid h2; have P1 := Lib.hid h3; clear h1 h2 h3))
    go_loopg [8, 9, 10, 11] f (fun gk _ v _ _ wr => ∃ (t : Tr) (j g : Nat), gk ≤ f ∧ v = .pointer (some ⟨g, 0, none⟩) ∧ Hid (pR l gk n t j = r) ∧ Hid (TreeAt wr W.heap.size t g) ∧ Hid (Mv q W wr) ∧ Hid (PSt q a c sz l j wr))
    case atStart => exact ⟨t, j, g1, Nat.le_refl _, rfl, HR, T1, M1, P1⟩
    case round =>
      clear T1 M1 P1 HF HR
      obtain ⟨t, j, g, hgk, rfl, hr, ht, hm, hp⟩ := hrel
      have HR := hr
      have HT := ht
      have HM := hm
      have HP := hp
      clear hr ht hm hp
      cases gk with
      | zero =>
        exfalso
        have := HR.out
        rw [pR] at this
        exact HNE.out this.symm
      | succ f1 =>
      have hr := HR.out
      rw [pR, signK_find] at hr
      obtain ⟨R, hR⟩ : ∃ R, signsL.find? (signP l n j) = R := ⟨_, rfl⟩
      have HS := Lib.hid (p_sign0 n HP.out R hR)
      rw [hR] at hr
      cases R with
      | none =>
        rw [if_pos rfl] at hr
        subst hr
        clear hR
        go_wp2_with (first
          | (go_at_call 77; (with_reducible refine HS.out.mono ?_); rintro e w2 ⟨rfl, h2, h3⟩; have M2 := Lib.hid h2; have P2 := Lib.hid h3; clear h2 h3))
        go_ret
        have ha := (Below.refl w2.heap.size w2).alloc (Nat.le_refl _) (.cells #[.string ByteArray.empty, .int .i64 0, .int .i64 0] 132)
        exact ⟨⟨g, rfl, (HT.out.high (High.of_mv M2.out QL.out)).high (High.of_below ha (Nat.le_refl _) _)⟩, (HM.out.trans M2.out).trans (Mv.of_below ha (Nat.le_trans (Nat.le_of_lt QL.out) (Nat.le_trans HM.out.low.size M2.out.low.size))), P2.out.keep ha⟩
      | some x =>
        obtain ⟨xt, xk, xl⟩ := x
        have hk0 : xk ≠ 0 := by
          have : ∀ m ∈ signsL, m.2.1 ≠ 0 := by decide
          exact this _ (List.mem_of_find?_eq_some hR)
        dsimp only at hr
        rw [if_neg hk0] at hr
        clear hR hk0
        cases hb : pL l f1 (n + 1) (j + 1) with
        | out => rw [hb] at hr; exact absurd hr.symm HNE.out
        | no j2 =>
          rw [hb] at hr
          have hr1 : PR.no j2 = r := hr
          subst hr1
          have HB2 := Lib.hid (fun X (hX : PSt q a c sz l (j + 1) X) => (show Calls Tryz.prog fB #[.pointer (some ⟨q, 0, none⟩)] X (Reads q a c sz l X (.no j2)) by have := HBs.out f1 (by omega) (j + 1) X hX (by simp [hb]); rwa [hb] at this))
          clear hb hr
          go_wp2_with (first
            | (go_at_call 77; (with_reducible refine HS.out.mono ?_); rintro e w2 ⟨rfl, h2, h3⟩; have M2 := Lib.hid h2; have P2 := Lib.hid h3; clear h2 h3))
          have kb := Blk.new w2 132 #[.string (txt xt), .int .i64 (xk : Int), .int .i64 (xl : Int)]
          have ba := (Below.refl w2.heap.size w2).alloc (Nat.le_refl _) (.cells #[.string (txt xt), .int .i64 (xk : Int), .int .i64 (xl : Int)] 132)
          have lq2 : q < w2.heap.size := P2.out.box.lt
          generalize hwb : World.alloc w2 _ = wb
          rw [hwb] at kb ba
          clear hwb
          obtain ⟨bs, hbs⟩ : ∃ z, w2.heap.size = z := ⟨_, rfl⟩
          have MB : Hid (Mv q W wb) := Lib.hid ((HM.out.trans M2.out).trans (Mv.of_below ba (Nat.le_of_lt lq2)))
          have PB := Lib.hid (P2.out.keep ba)
          have TB : Hid (TreeAt wb W.heap.size t g) := Lib.hid ((HT.out.high (High.of_mv M2.out QL.out)).high (High.of_below ba (Nat.le_refl _) _))
          rw [hbs] at kb lq2 ⊢
          have KB : wb.cell? ⟨bs, 1, none⟩ = some (.int .i64 (xk : Int)) := kb.cell rfl
          have lbs := kb.lt
          clear kb ba hbs
          refine wp_region_held_drew (S := fun w' => w'.cell? ⟨bs, 1, none⟩ = some (.int .i64 (xk : Int))) (by kernel_rfl) KB (fun hHeld => ?_)
          refine wpAnyH_take (i := 0) (v := ?_) rfl (by kernel_rfl) (by kernel_rfl) (by kernel_rfl) (fun _ _ _ h => h) (Or.inl ⟨by rfl, ?_⟩) (by assumption) ?_
          rotate_left
          · intro w hSw; (try dsimp only at hSw); go_simp; with_reducible rfl
          try simp only [Act.put, List.setIfInBounds_toArray, List.set_cons_zero, List.set_cons_succ]
          refine wpAnyH_take (i := 1) (v := ?_) rfl (by kernel_rfl) (by kernel_rfl) (by kernel_rfl) (fun _ _ _ h => h) (Or.inl ⟨by rfl, ?_⟩) (by assumption) ?_
          rotate_left
          · intro w hSw; (try dsimp only at hSw); go_simp; with_reducible rfl
          try simp only [Act.put, List.setIfInBounds_toArray, List.set_cons_zero, List.set_cons_succ]
          refine wpAnyH_take (i := 2) (v := ?_) rfl (by kernel_rfl) (by kernel_rfl) (by kernel_rfl) (fun _ _ _ h => h) (Or.inl ⟨by rfl, ?_⟩) (by assumption) ?_
          rotate_left
          · intro w hSw; (try dsimp only at hSw); go_simp; with_reducible rfl
          try simp only [Act.put, List.setIfInBounds_toArray, List.set_cons_zero, List.set_cons_succ]
          refine wpAnyH_take (i := 3) (v := ?_) rfl (by kernel_rfl) (by kernel_rfl) (by kernel_rfl) (fun _ _ _ h => h) (Or.inl ⟨by rfl, ?_⟩) (by assumption) ?_
          rotate_left
          · intro w hSw; (try dsimp only at hSw); go_simp; with_reducible rfl
          try simp only [Act.put, List.setIfInBounds_toArray, List.set_cons_zero, List.set_cons_succ]
          refine wpAnyH_ready (rs := [4]) (by kernel_rfl) (by simp) ?_
          refine AllReadyH.cons rfl (fun K hK => ?_) AllReadyH.nil
          go_simp
          go_wp2_with (first
            | (refine (HB2.out _ (PB.out.quiet ⟨1, rfl⟩)).mono ?_; rintro e w3 ⟨rfl, h1⟩; have M3 : Hid (Mv q W w3) := Lib.hid (MB.out.trans ((Mv.quiet ⟨1, rfl⟩).trans h1)); clear h1))
          exact ⟨rfl, rfl, M3.out⟩
        | ok t2 j2 =>
          have HB2 := Lib.hid (fun X (hX : PSt q a c sz l (j + 1) X) => (show Calls Tryz.prog fB #[.pointer (some ⟨q, 0, none⟩)] X (Reads q a c sz l X (.ok t2 j2)) by have := HBs.out f1 (by omega) (j + 1) X hX (by simp [hb]); rwa [hb] at this))
          have HR2 := Lib.hid hr
          have Hb := Lib.hid hb
          clear hb hr
          go_wp2_with (first
            | (go_at_call 77; (with_reducible refine HS.out.mono ?_); rintro e w2 ⟨rfl, h2, h3⟩; have M2 := Lib.hid h2; have P2 := Lib.hid h3; clear h2 h3))
          have kb := Blk.new w2 132 #[.string (txt xt), .int .i64 (xk : Int), .int .i64 (xl : Int)]
          have ba := (Below.refl w2.heap.size w2).alloc (Nat.le_refl _) (.cells #[.string (txt xt), .int .i64 (xk : Int), .int .i64 (xl : Int)] 132)
          have lq2 : q < w2.heap.size := P2.out.box.lt
          generalize hwb : World.alloc w2 _ = wb
          rw [hwb] at kb ba
          clear hwb
          obtain ⟨bs, hbs⟩ : ∃ z, w2.heap.size = z := ⟨_, rfl⟩
          have MB : Hid (Mv q W wb) := Lib.hid ((HM.out.trans M2.out).trans (Mv.of_below ba (Nat.le_of_lt lq2)))
          have PB := Lib.hid (P2.out.keep ba)
          have TB : Hid (TreeAt wb W.heap.size t g) := Lib.hid ((HT.out.high (High.of_mv M2.out QL.out)).high (High.of_below ba (Nat.le_refl _) _))
          rw [hbs] at kb lq2 ⊢
          have KB : wb.cell? ⟨bs, 1, none⟩ = some (.int .i64 (xk : Int)) := kb.cell rfl
          have lbs := kb.lt
          clear kb ba hbs
          go_region_held3 (fun w' => w'.cell? ⟨bs, 1, none⟩ = some (.int .i64 (xk : Int)))
            (first | exact KB | exact K3 | go_keep | fail)
            (first
              | (refine (HB2.out _ (PB.out.quiet ⟨1, rfl⟩)).mono ?_; rintro e w3 ⟨⟨g2, rfl, h1⟩, h2, h3⟩; have K3 : w3.cell? ⟨bs, 1, none⟩ = some (.int .i64 (xk : Int)) := h2.cell lq2 KB; have T3 := Lib.hid h1; have M3 := Lib.hid h2; have P3 := Lib.hid h3; clear h1 h2 h3)
              | (go_at_call 78; refine (p_of xk [] _ _ _ _).mono ?_; rintro e w4 ⟨rfl, rfl⟩))
          have e1 : (wb.drewN 1).heap.size = wb.heap.size := rfl
          have MW : Mv q W w3 := MB.out.trans ((Mv.quiet ⟨1, rfl⟩).trans M3.out)
          have lW : W.heap.size ≤ (wb.drewN 1).heap.size := by rw [e1]; exact MB.out.low.size
          have N2 := Lib.hid (node2 (k := xk) (lo := W.heap.size) MW.low.size ((TB.out.high (High.of_mv (Mv.quiet (W' := wb.drewN 1) ⟨1, rfl⟩) QL.out)).high (High.of_mv M3.out QL.out)) (T3.out.mono lW))
          have bN := ((Below.refl w3.heap.size w3).alloc (Nat.le_refl _) (.cells #[.pointer (some ⟨g, 0, none⟩), .pointer (some ⟨g2, 0, none⟩)] 74)).alloc (by simp) (.cells #[.int .i64 (xk : Int), .string (txt []), .int .i64 0, .slice none 0 0, .slice (some ⟨w3.heap.size, 0, none⟩) 2 2] 107)
          have MN := Lib.hid (MW.trans (Mv.of_below bN (Nat.le_of_lt P3.out.box.lt)))
          have PN := Lib.hid (P3.out.keep bN)
          clear MW bN e1 lW KB K3
          have hr := HR2.out
          rw [Hb.out] at hr
          have hr1 : (if n = 4 then PR.ok (.node xk [] 0 [t, t2]) j2 else pR l f1 n (.node xk [] 0 [t, t2]) j2) = r := hr
          clear hr
          by_cases hn4 : n = 4
          · rw [if_pos hn4] at hr1
            subst hr1
            have ho := HO.out
            rw [decide_eq_true hn4] at ho
            subst ho
            clear hn4
            go_wp2_with fail
            go_ret
            exact ⟨⟨_, rfl, N2.out⟩, MN.out, PN.out⟩
          · rw [if_neg hn4] at hr1
            have HR3 := Lib.hid hr1
            have ho := HO.out
            rw [decide_eq_false hn4] at ho
            subst ho
            clear hn4 hr1
            go_wp2_with fail
            go_roundg f1
            case measure => omega
            case rel => exact ⟨_, _, _, by omega, rfl, HR3, N2, MN, PN⟩
end
end Go.Proofs.YtidkbodmiegbkaaGreatDoor
namespace Go.Proofs.YtidkbodmiegbkaaGreatDoor
set_option linter.unusedSimpArgs false
set_option linter.unusedVariables false
open Go.RowKit
section
variable {q : Nat} {a : Option Addr} {c sz : Nat} {l : List Tok} {i : Nat} {W : World}
/-- a tree under a node -/
theorem node1 {w : World} {lo k g1 : Nat} {s : List Nat} {t1 : Tr} (hlo : lo ≤ w.heap.size) (h1 : TreeAt w lo t1 g1) :
    TreeAt ((w.alloc (.cells #[.pointer (some ⟨g1, 0, none⟩)] 74)).alloc (.cells #[.int .i64 (k : Int), .string (txt s), .int .i64 0, .slice none 0 0, .slice (some ⟨w.heap.size, 0, none⟩) 1 1] 107)) lo (.node k s 0 [t1]) (w.heap.size + 1) := by
  have hb : Below w.heap.size w ((w.alloc (.cells #[.pointer (some ⟨g1, 0, none⟩)] 74)).alloc (.cells #[.int .i64 (k : Int), .string (txt s), .int .i64 0, .slice none 0 0, .slice (some ⟨w.heap.size, 0, none⟩) 1 1] 107)) :=
    ((Below.refl _ _).alloc (Nat.le_refl _) _).alloc (by simp) _
  have hi := High.of_below hb (Nat.le_refl _) lo
  simp only [TreeAt, TreeIn, TreesIn]
  refine ⟨by omega, _, [g1], Blk.new_ (by simp) _ _, ⟨[.pointer (some ⟨g1, 0, none⟩)], ⟨rfl, .inr ⟨w.heap.size, 1, _, rfl, Nat.zero_le _, (Blk.new w 74 #[.pointer (some ⟨g1, 0, none⟩)]).alloc _, Nat.le_refl _, by unfold maxLen; simp, by simp, by simp⟩⟩, rfl, fun j y hy => ?_⟩, (fun b hb => by simp [Value.ownBlock] at hb; omega), g1, [], rfl, h1.high hi, rfl⟩
  rcases j with _ | j
  · injection hy with hy; subst hy; rfl
  · simp at hy
/-- a node by itself, known whole -/
theorem node0 {w : World} {lo k g : Nat} {s : List Nat} {n : Int} (hlo : lo ≤ g) (h : Blk w g 107 #[.int .i64 (k : Int), .string (txt s), .int .i64 n, .slice none 0 0, .slice none 0 0]) : TreeAt w lo (.node k s n []) g := by
  simp only [TreeAt, TreeIn, TreesIn]
  exact ⟨hlo, _, [], h, ⟨[], ⟨rfl, .inl ⟨rfl, rfl⟩⟩, FlatR.nil_⟩, (fun b hb => by cases hb), rfl⟩
theorem Reads.back {W1 : World} {r : PR} {e : Ending} {w' : World} (hm : Mv q W W1) (h : Reads q a c sz l W1 r e w') : Reads q a c sz l W r e w' := by
  cases r with
  | ok t j => exact ⟨⟨h.1.choose, h.1.choose_spec.1, h.1.choose_spec.2.mono hm.low.size⟩, hm.trans h.2.1, h.2.2⟩
  | no j => exact ⟨h.1, hm.trans h.2⟩
  | out => exact h
theorem Reads.get {t : Tr} {j : Nat} {e : Ending} {w' : World} (h : Reads q a c sz l W (.ok t j) e w') : ∃ g, e = .returned (.pointer (some ⟨g, 0, none⟩)) ∧ TreeAt w' W.heap.size t g ∧ Mv q W w' ∧ PSt q a c sz l j w' :=
  ⟨h.1.choose, h.1.choose_spec.1, h.1.choose_spec.2, h.2.1, h.2.2⟩
theorem Reads.mk_ {t : Tr} {j g : Nat} {w' : World} (h1 : TreeAt w' W.heap.size t g) (h2 : Mv q W w') (h3 : PSt q a c sz l j w') : Reads q a c sz l W (.ok t j) (.returned (.pointer (some ⟨g, 0, none⟩))) w' := ⟨⟨g, rfl, h1⟩, h2, h3⟩
theorem below2a (w : World) (o o' : Obj) : Below w.heap.size w ((w.alloc o).alloc o') := ((Below.refl _ _).alloc (Nat.le_refl _) o).alloc (by simp) o'
theorem Reads.node1 {w : World} {t : Tr} {j g1 k : Nat} {s : List Nat} (h1 : TreeAt w W.heap.size t g1) (h2 : Mv q W w) (h3 : PSt q a c sz l j w) :
    Reads q a c sz l W (.ok (.node k s 0 [t]) j) (.returned (.pointer (some ⟨w.heap.size + 1, 0, none⟩))) ((w.alloc (.cells #[.pointer (some ⟨g1, 0, none⟩)] 74)).alloc (.cells #[.int .i64 (k : Int), .string (txt s), .int .i64 0, .slice none 0 0, .slice (some ⟨w.heap.size, 0, none⟩) 1 1] 107)) :=
  Reads.mk_ (Go.Proofs.YtidkbodmiegbkaaGreatDoor.node1 h2.low.size h1) (h2.trans (Mv.of_below (below2a w _ _) (Nat.le_of_lt h3.box.lt))) (h3.keep (below2a w _ _))
set_option maxRecDepth 100000 in
set_option maxHeartbeats 8000000 in
theorem p_not (f : Nat) (HN : LevelC q a c sz l 79 (fun i => pL l f 3 i)) (HC : LevelC q a c sz l 89 (fun i => pL l f 4 i)) : LevelC q a c sz l 79 (fun i => pL l (f + 1) 3 i) := by
  intro i W h hr
  have hr0 : pL l (f + 1) 3 i = if isT l i notT then (pL l f 3 (i + 1)).bind fun k j => .ok (.node 29 [] 0 [k]) j else pL l f 4 i := by rw [pL]; rfl
  simp only at hr ⊢
  rw [hr0] at hr ⊢
  clear hr0
  obtain ⟨f0, f1, f2, f3, f4⟩ := h.facts
  have hle := h.le
  have hfew := h.few
  have i5 : (i : Int) ≤ 5000 := by omega
  have i0 : (0 : Int) ≤ (i : Int) := Int.natCast_nonneg _
  have H := Lib.hid h
  have QL := Lib.hid h.box.lt
  obtain ⟨b, hb⟩ : ∃ b, isT l i notT = b := ⟨_, rfl⟩
  have HX := Lib.hid (p_next notT (show ∀ n ∈ notT, n < 256 by decide) b hb h)
  have hnx : (txt notT) = ⟨#[110, 111, 116]⟩ := by decide
  rw [hnx] at HX
  cases b with
  | false =>
    rw [hb, if_neg (by simp)] at hr ⊢
    obtain ⟨r, hrr⟩ : ∃ r, pL l f 4 i = r := ⟨_, rfl⟩
    have HC1 : Hid (∀ n, Calls Tryz.prog 89 #[.pointer (some ⟨q, 0, none⟩)] (W.drewN n) (Reads q a c sz l (W.drewN n) r)) := Lib.hid (fun n => by rw [← hrr]; exact HC i (W.drewN n) (h.quiet ⟨n, rfl⟩) hr)
    rw [hrr] at hr ⊢
    clear HN HC h hb hle hfew hrr hnx
    cases r with
    | out => exact absurd rfl hr
    | no j =>
      clear hr
      go_enter Tryz.func79, Tryz.ntmps79
      go_wp2_with (first
        | (go_at_call 88; (with_reducible refine HX.out.mono ?_); rintro e w1 ⟨rfl, nq, rfl⟩)
        | (go_at_call 89; refine (HC1.out _).mono ?_; rintro e w2 ⟨rfl, h2⟩; have M2 := Lib.hid h2; clear h2))
      exact ⟨rfl, rfl, (Mv.quiet ⟨_, rfl⟩).trans M2.out⟩
    | ok t j =>
      clear hr
      go_enter Tryz.func79, Tryz.ntmps79
      go_wp2_with (first
        | (go_at_call 88; (with_reducible refine HX.out.mono ?_); rintro e w1 ⟨rfl, nq, rfl⟩)
        | (go_at_call 89; refine (HC1.out _).mono ?_; rintro e w2 h2; obtain ⟨g, rfl, h3, h4, h5⟩ := h2.get; have M2 := Lib.hid (And.intro h3 (And.intro h4 h5)); clear h2 h3 h4 h5))
      go_ret
      exact (Reads.mk_ M2.out.1 M2.out.2.1 M2.out.2.2).back (Mv.quiet ⟨_, rfl⟩)
  | true =>
    rw [hb, if_pos rfl] at hr ⊢
    obtain ⟨r, hrr⟩ : ∃ r, pL l f 3 (i + 1) = r := ⟨_, rfl⟩
    have hlt := isT_lt hb
    have ST := Lib.hid (fun n => h.step (j := i + 1) (u := .int .i64 ((i : Int) + 1)) (by go_num) hlt n)
    have hne : r ≠ .out := fun e => hr (by rw [hrr, e]; rfl)
    have HC1 : Hid (∀ n, Calls Tryz.prog 79 #[.pointer (some ⟨q, 0, none⟩)] ((W.drewN n).setCell ⟨q, 1, none⟩ (.int .i64 ((i : Int) + 1))) (Reads q a c sz l ((W.drewN n).setCell ⟨q, 1, none⟩ (.int .i64 ((i : Int) + 1))) r)) := Lib.hid (fun n => by have hq := (ST.out n).2; rw [← hrr]; exact HN (i + 1) _ hq (by show pL l f 3 (i + 1) ≠ .out; rw [hrr]; exact hne))
    rw [hrr]
    clear HN HC h hb hle hfew hrr hr hlt hnx
    cases r with
    | out => exact absurd rfl hne
    | no j =>
      clear hne
      go_enter Tryz.func79, Tryz.ntmps79
      go_wp2_with (first
        | (go_at_call 88; (with_reducible refine HX.out.mono ?_); rintro e w1 ⟨rfl, nq, rfl⟩)
        | (go_at_call 79; refine (HC1.out _).mono ?_; rintro e w2 ⟨rfl, h2⟩; have M2 := Lib.hid h2; clear h2))
      exact ⟨rfl, rfl, (ST.out _).1.trans M2.out⟩
    | ok t j =>
      clear hne
      go_enter Tryz.func79, Tryz.ntmps79
      go_wp2_with (first
        | (go_at_call 88; (with_reducible refine HX.out.mono ?_); rintro e w1 ⟨rfl, nq, rfl⟩)
        | (go_at_call 79; refine (HC1.out _).mono ?_; rintro e w2 h2; obtain ⟨g, rfl, h3, h4, h5⟩ := h2.get; have M2 := Lib.hid (And.intro h3 (And.intro h4 h5)); clear h2 h3 h4 h5)
        | (go_at_call 78; refine (p_of 29 [] _ _ _ _).mono ?_; rintro e w4 ⟨rfl, rfl⟩))
      go_ret
      exact Reads.back (ST.out _).1 (Reads.node1 M2.out.1 M2.out.2.1 M2.out.2.2)
set_option maxRecDepth 100000 in
set_option maxHeartbeats 8000000 in
theorem p_post (f : Nat) (HP : LevelC q a c sz l 105 (fun i => pP l f i)) : LevelC q a c sz l 100 (fun i => pL l (f + 1) 7 i) := by
  intro i W h hr
  have hr0 : pL l (f + 1) 7 i = (pP l f i).bind fun t j => pQ l f t j := by rw [pL]; rfl
  simp only at hr ⊢
  rw [hr0] at hr ⊢
  obtain ⟨r, hr1⟩ : ∃ r, ((pP l f i).bind fun t j => pQ l f t j) = r := ⟨_, rfl⟩
  rw [hr1] at hr ⊢
  have H := Lib.hid h
  have QL := Lib.hid h.box.lt
  clear hr0
  cases hb : pP l f i with
  | out => rw [hb] at hr1; exact absurd hr1.symm hr
  | no j =>
    rw [hb] at hr1
    have HF : Hid (Calls Tryz.prog 105 #[.pointer (some ⟨q, 0, none⟩)] W (Reads q a c sz l W (.no j))) := Lib.hid (by rw [← hb]; exact HP i W h (by simp [hb]))
    have hr2 : PR.no j = r := hr1
    subst hr2
    clear HP h hr1 hb hr
    go_enter Tryz.func100, Tryz.ntmps100
    go_wp2_with (first
      | (go_at_call 105; refine HF.out.mono ?_; rintro e w1 ⟨rfl, h1⟩; have M1 := Lib.hid h1; clear h1))
    exact ⟨rfl, rfl, M1.out⟩
  | ok t j =>
    rw [hb] at hr1
    have HF : Hid (Calls Tryz.prog 105 #[.pointer (some ⟨q, 0, none⟩)] W (Reads q a c sz l W (.ok t j))) := Lib.hid (by rw [← hb]; exact HP i W h (by simp [hb]))
    have hr2 : pQ l f t j = r := hr1
    have HR := Lib.hid hr2
    have HNE := Lib.hid hr
    clear HP h hr1 hb hr hr2
    go_enter Tryz.func100, Tryz.ntmps100
    go_wp2_with (first
      | (go_at_call 105; refine HF.out.mono ?_; rintro e w1 h2; obtain ⟨g1, rfl, h3, h4, h5⟩ := h2.get; have T1 := Lib.hid h3; have M1 := Lib.hid h4; have P1 := Lib.hid h5; clear h2 h3 h4 h5))
    go_loopg [2, 3, 4, 5, 6] f (fun gk _ v _ _ _ wr => ∃ (t : Tr) (j g : Nat), v = .pointer (some ⟨g, 0, none⟩) ∧ Hid (pQ l gk t j = r) ∧ Hid (TreeAt wr W.heap.size t g) ∧ Hid (Mv q W wr) ∧ Hid (PSt q a c sz l j wr))
    case atStart => exact ⟨t, j, g1, rfl, HR, T1, M1, P1⟩
    case round =>
      clear T1 M1 P1 HF HR
      obtain ⟨t, j, g, rfl, hr, ht, hm, hp⟩ := hrel
      have HR := hr
      have HT := ht
      have HM := hm
      have HP := hp
      clear hr ht hm hp
      cases gk with
      | zero =>
        exfalso
        have := HR.out
        rw [pQ] at this
        exact HNE.out this.symm
      | succ f1 =>
      have hr := HR.out
      rw [pQ, signK_find] at hr
      obtain ⟨R, hR⟩ : ∃ R, signsL.find? (signP l 7 j) = R := ⟨_, rfl⟩
      have HS : Hid (Calls Tryz.prog 77 #[.pointer (some ⟨q, 0, none⟩), .int .i64 7] wr fun e w' => SignIs q a c sz l j wr R e w') := Lib.hid (p_sign0 7 HP.out R hR)
      rw [hR] at hr
      cases R with
      | none =>
        rw [if_pos rfl] at hr
        subst hr
        clear hR
        go_wp2_with (first
          | (go_at_call 77; (with_reducible refine HS.out.mono ?_); rintro e w2 ⟨rfl, h2, h3⟩; have M2 := Lib.hid h2; have P2 := Lib.hid h3; clear h2 h3))
        go_ret
        have ha := (Below.refl w2.heap.size w2).alloc (Nat.le_refl _) (.cells #[.string ByteArray.empty, .int .i64 0, .int .i64 0] 132)
        exact ⟨⟨g, rfl, (HT.out.high (High.of_mv M2.out QL.out)).high (High.of_below ha (Nat.le_refl _) _)⟩, (HM.out.trans M2.out).trans (Mv.of_below ha (Nat.le_trans (Nat.le_of_lt QL.out) (Nat.le_trans HM.out.low.size M2.out.low.size))), P2.out.keep ha⟩
      | some x =>
        obtain ⟨xt, xk, xl⟩ := x
        have hk0 : xk ≠ 0 := by
          have : ∀ m ∈ signsL, m.2.1 ≠ 0 := by decide
          exact this _ (List.mem_of_find?_eq_some hR)
        dsimp only at hr
        rw [if_neg hk0] at hr
        clear hR hk0
        by_cases hk11 : xk = 11
        · subst hk11
          rw [if_pos rfl] at hr
          have HR2 := Lib.hid hr
          clear hr
          go_wp2_with (first
            | (go_at_call 77; (with_reducible refine HS.out.mono ?_); rintro e w2 ⟨rfl, h2, h3⟩; have M2 := Lib.hid h2; have P2 := Lib.hid h3; clear h2 h3)
            | (go_at_call 78; refine (p_of 11 [] _ _ _ _).mono ?_; rintro e w4 ⟨rfl, rfl⟩))
          have ba := (Below.refl w2.heap.size w2).alloc (Nat.le_refl _) (.cells #[.string (txt xt), .int .i64 11, .int .i64 (xl : Int)] 132)
          have TB := (HT.out.high (High.of_mv M2.out QL.out)).high (High.of_below ba (Nat.le_refl _) _)
          have MB := (HM.out.trans M2.out).trans (Mv.of_below (q := q) ba (Nat.le_of_lt P2.out.box.lt))
          have PB := P2.out.keep ba
          have N2 := Lib.hid (Go.Proofs.YtidkbodmiegbkaaGreatDoor.node1 (k := 11) (s := []) (lo := W.heap.size) (w := w2.alloc (.cells #[.string (txt xt), .int .i64 11, .int .i64 (xl : Int)] 132)) MB.low.size TB)
          have MN := Lib.hid (MB.trans (Mv.of_below (q := q) (below2a (w2.alloc (.cells #[.string (txt xt), .int .i64 11, .int .i64 (xl : Int)] 132)) (.cells #[.pointer (some ⟨g, 0, none⟩)] 74) (.cells #[.int .i64 ((11 : Nat) : Int), .string (txt []), .int .i64 0, .slice none 0 0, .slice (some ⟨(w2.alloc (.cells #[.string (txt xt), .int .i64 11, .int .i64 (xl : Int)] 132)).heap.size, 0, none⟩) 1 1] 107)) (Nat.le_of_lt PB.box.lt)))
          have PN := Lib.hid (PB.keep (below2a (w2.alloc (.cells #[.string (txt xt), .int .i64 11, .int .i64 (xl : Int)] 132)) (.cells #[.pointer (some ⟨g, 0, none⟩)] 74) (.cells #[.int .i64 ((11 : Nat) : Int), .string (txt []), .int .i64 0, .slice none 0 0, .slice (some ⟨(w2.alloc (.cells #[.string (txt xt), .int .i64 11, .int .i64 (xl : Int)] 132)).heap.size, 0, none⟩) 1 1] 107)))
          go_roundg f1
          case measure => omega
          case rel => exact ⟨_, _, _, rfl, HR2, Lib.hid (by have := N2.out; simp only [World.size_alloc] at this; exact this), Lib.hid (by have := MN.out; simp only [World.size_alloc] at this; exact this), Lib.hid (by have := PN.out; simp only [World.size_alloc] at this; exact this)⟩
        · rw [if_neg hk11] at hr
          have d1 : (((xk : Int)) != 11) = true := by simp; omega
          unfold nameAt at hr
          by_cases hnm : ∃ tk, l[j + 1]? = some tk ∧ tk.kind = 3
          · obtain ⟨tk, htk, hkd⟩ := hnm
            rw [htk] at hr
            simp only at hr
            rw [if_pos hkd] at hr
            have HR2 := Lib.hid hr
            have HN := Lib.hid (fun X (hX : PSt q a c sz l (j + 1) X) => p_name_yes htk hkd hX)
            clear hr htk hkd hk11
            go_wp2_with (first
              | (go_at_call 77; (with_reducible refine HS.out.mono ?_); rintro e w2 ⟨rfl, h2, h3⟩; have M2 := Lib.hid h2; have P2 := Lib.hid h3; clear h2 h3)
              | (go_at_call 106; refine (HN.out _ (P2.out.keep ((Below.refl w2.heap.size w2).alloc (Nat.le_refl _) (.cells #[.string (txt xt), .int .i64 (xk : Int), .int .i64 (xl : Int)] 132)))).mono ?_; rintro e w3 ⟨rfl, h2, h3⟩; have K3 : w3.cell? ⟨w2.heap.size, 1, none⟩ = some (.int .i64 (xk : Int)) := h2.cell P2.out.box.lt ((Blk.new w2 132 #[.string (txt xt), .int .i64 (xk : Int), .int .i64 (xl : Int)]).cell rfl); have M3 := Lib.hid h2; have P3 := Lib.hid h3; clear h2 h3)
              | (go_at_call 78; refine (p_of xk tk.text _ _ _ _).mono ?_; rintro e w4 ⟨rfl, rfl⟩))
            have ba := (Below.refl w2.heap.size w2).alloc (Nat.le_refl _) (.cells #[.string (txt xt), .int .i64 (xk : Int), .int .i64 (xl : Int)] 132)
            have TB := ((HT.out.high (High.of_mv M2.out QL.out)).high (High.of_below ba (Nat.le_refl _) _)).high (High.of_mv M3.out QL.out)
            have MB := ((HM.out.trans M2.out).trans (Mv.of_below (q := q) ba (Nat.le_of_lt P2.out.box.lt))).trans M3.out
            have PB := P3.out
            have N2 := Lib.hid (Go.Proofs.YtidkbodmiegbkaaGreatDoor.node1 (k := xk) (s := tk.text) (lo := W.heap.size) (w := w3) MB.low.size TB)
            have MN := Lib.hid (MB.trans (Mv.of_below (q := q) (below2a (w3) (.cells #[.pointer (some ⟨g, 0, none⟩)] 74) (.cells #[.int .i64 ((xk : Nat) : Int), .string (txt tk.text), .int .i64 0, .slice none 0 0, .slice (some ⟨(w3).heap.size, 0, none⟩) 1 1] 107)) (Nat.le_of_lt PB.box.lt)))
            have PN := Lib.hid (PB.keep (below2a (w3) (.cells #[.pointer (some ⟨g, 0, none⟩)] 74) (.cells #[.int .i64 ((xk : Nat) : Int), .string (txt tk.text), .int .i64 0, .slice none 0 0, .slice (some ⟨(w3).heap.size, 0, none⟩) 1 1] 107)))
            go_roundg f1
            case measure => omega
            case rel => exact ⟨_, _, _, rfl, HR2, N2, MN, PN⟩
          · have hno : r = .no (j + 1) := by
              rw [← hr]
              cases htk : l[j + 1]? with
              | none => rfl
              | some tk => exact if_neg fun e => hnm ⟨tk, htk, e⟩
            subst hno
            have HN := Lib.hid (fun X (hX : PSt q a c sz l (j + 1) X) => p_name_no (fun t ht e => hnm ⟨t, ht, e⟩) hX)
            clear hr hk11 hnm
            go_wp2_with (first
              | (go_at_call 77; (with_reducible refine HS.out.mono ?_); rintro e w2 ⟨rfl, h2, h3⟩; have M2 := Lib.hid h2; have P2 := Lib.hid h3; clear h2 h3)
              | (go_at_call 106; refine (HN.out _ (P2.out.keep ((Below.refl w2.heap.size w2).alloc (Nat.le_refl _) (.cells #[.string (txt xt), .int .i64 (xk : Int), .int .i64 (xl : Int)] 132)))).mono ?_; rintro e w3 ⟨rfl, h2⟩; have M3 := Lib.hid h2; clear h2))
            have ba := (Below.refl w2.heap.size w2).alloc (Nat.le_refl _) (.cells #[.string (txt xt), .int .i64 (xk : Int), .int .i64 (xl : Int)] 132)
            exact ⟨rfl, rfl, ((HM.out.trans M2.out).trans (Mv.of_below (q := q) ba (Nat.le_of_lt P2.out.box.lt))).trans (Mv.quiet M3.out)⟩
end
end Go.Proofs.YtidkbodmiegbkaaGreatDoor
namespace Go.Proofs.YtidkbodmiegbkaaGreatDoor
set_option linter.unusedSimpArgs false
set_option linter.unusedVariables false
open Go.RowKit
theorem info_ptr : (Tryz.prog.info? 74).map (fun i => (i.zero, i.size, i.bytes)) = some (some (.pointer none), 1, 8) := by kernel_rfl
/-- the parser at token j, a node of a kind and text in block g, with parts so far -/
structure WS (q : Nat) (a : Option Addr) (c sz : Nat) (l : List Tok) (W : World) (g k : Nat) (s : List Nat) (ts : List Tr) (j : Nat) (X : World) (v : Value) : Prop where
  mv : Mv q W X
  st : PSt q a c sz l j X
  box : Blk X g 107 #[.int .i64 (k : Int), .string (txt s), .int .i64 0, .slice none 0 0, v]
  lo : W.heap.size ≤ g
  ql : q < W.heap.size
  row : ∃ gs, Own1 X (g + 1) 74 1 IsPtr v gs ∧ TreesIn X (fun b => g + 1 ≤ b ∧ v.ownBlock ≠ some b) ts gs
section
variable {q : Nat} {a : Option Addr} {c sz : Nat} {l : List Tok} {W : World} {g k : Nat} {s : List Nat} {ts : List Tr} {j : Nat} {X : World} {v : Value}
theorem WS.new {X0 : World} (hm : Mv q W X0) (hp : PSt q a c sz l j X0) (hq : q < W.heap.size) : WS q a c sz l W X0.heap.size k s [] j (X0.alloc (.cells #[.int .i64 (k : Int), .string (txt s), .int .i64 0, .slice none 0 0, .slice none 0 0] 107)) (.slice none 0 0) := by
  have hb := (Below.refl X0.heap.size X0).alloc (Nat.le_refl _) (.cells #[.int .i64 (k : Int), .string (txt s), .int .i64 0, .slice none 0 0, .slice none 0 0] 107)
  exact ⟨hm.trans (Mv.of_below hb (Nat.le_of_lt hp.box.lt)), hp.keep hb, Blk.new _ _ _, hm.low.size, hq, [], ⟨[], ⟨rfl, .inl ⟨rfl, rfl⟩⟩, FlatR.nil_⟩, rfl⟩
theorem WS.call (h : WS q a c sz l W g k s ts j X v) {X' : World} {j' : Nat} (hm : Mv q X X') (hp : PSt q a c sz l j' X') : WS q a c sz l W g k s ts j' X' v := by
  obtain ⟨gs, h1, h2⟩ := h.row
  have hg : q < g := Nat.lt_of_lt_of_le h.ql h.lo
  refine ⟨h.mv.trans hm, hp, hm.blk h.box hg, h.lo, h.ql, gs, h1.stay (fun b hb hl => hm.high b ?_ hl), h2.stay (fun b hb hl => hm.high b (by omega) hl)⟩
  have := (h1.block b hb).1
  omega
theorem WS.quiet (h : WS q a c sz l W g k s ts j X v) {X' : World} (hq : Quiet X X') : WS q a c sz l W g k s ts j X' v := h.call (Mv.quiet hq) (h.st.quiet hq)
theorem WS.tree (h : WS q a c sz l W g k s ts j X v) : TreeAt X W.heap.size (.node k s 0 ts) g := by
  obtain ⟨gs, h1, h2⟩ := h.row
  have hlo := h.lo
  simp only [TreeAt, TreeIn]
  exact ⟨h.lo, v, gs, h.box, h1.mono (Nat.zero_le _), fun b hb => by have := (h1.block b hb).1; omega, h2.imp (fun b hb _ => by omega)⟩
theorem WS.reads (h : WS q a c sz l W g k s ts j X v) : Reads q a c sz l W (.ok (.node k s 0 ts) j) (.returned (.pointer (some ⟨g, 0, none⟩))) X := Reads.mk_ h.tree h.mv h.st
theorem WS.name (h : WS q a c sz l W g k s ts j X v) {s' : List Nat} {u : Value} (hu : u = .string (txt s')) : WS q a c sz l W g k s' ts j (X.setCell ⟨g, 1, none⟩ u) v := by
  subst hu
  obtain ⟨gs, h1, h2⟩ := h.row
  have hg : q < g := Nat.lt_of_lt_of_le h.ql h.lo
  have hst : ∀ b, g + 1 ≤ b → (X.setCell ⟨g, 1, none⟩ (.string (txt s'))).heap[b]? = X.heap[b]? := fun b hb => Below.heap_setCell X ⟨g, 1, none⟩ _ b (by show b ≠ g; omega)
  refine ⟨h.mv.setNew (p := ⟨g, 1, none⟩) _ (Nat.le_of_lt hg) h.lo, h.st.setFar (p := ⟨g, 1, none⟩) _ hg, by have := h.box.set_ 1 (.string (txt s')); simpa using this, h.lo, h.ql, gs, h1.stay (fun b hb _ => hst b (h1.block b hb).1), h2.stay (fun b hb _ => hst b hb.1)⟩
theorem WS.cells (h : WS q a c sz l W g k s ts j X v) : X.cell? ⟨g, 0, none⟩ = some (.int .i64 (k : Int)) ∧ X.cell? ⟨g, 1, none⟩ = some (.string (txt s)) ∧ X.cell? ⟨g, 4, none⟩ = some v ∧ X.frozen? ⟨g, 1, none⟩ = false ∧ X.frozen? ⟨g, 4, none⟩ = false ∧ g < X.heap.size :=
  ⟨h.box.cell rfl, h.box.cell rfl, h.box.cell rfl, h.box.frozen 1, h.box.frozen 4, h.box.lt⟩
theorem own_ptr {base : Nat} {gs : List Nat} (h : Own1 X base 74 1 IsPtr v gs) : X.ownsRow base 74 1 v gs.length (gs.map fun x => Value.pointer (some ⟨x, 0, none⟩)) := by
  obtain ⟨xs, h1, h2⟩ := h
  have : xs = gs.map fun x => Value.pointer (some ⟨x, 0, none⟩) := by
    apply List.ext_getElem?
    intro i
    have hl := h2.1
    rw [Nat.mul_one] at hl
    rcases Nat.lt_or_ge i gs.length with hi | hi
    · have := h2.2 i gs[i] (List.getElem?_eq_getElem hi)
      unfold IsPtr at this
      rw [Nat.mul_one] at this
      have e : ((xs.drop i).take 1)[0]? = xs[i]? := by rw [List.getElem?_take_of_lt (by omega), List.getElem?_drop, Nat.add_zero]
      rw [← e, this, List.getElem?_map, List.getElem?_eq_getElem hi]
      rfl
    · rw [List.getElem?_eq_none (by omega), List.getElem?_eq_none (by simp; omega)]
  rw [← this]
  exact h1
theorem TreesIn.len {S : Nat → Prop} : ∀ {ts : List Tr} {gs : List Nat}, TreesIn X S ts gs → gs.length = ts.length
  | [], gs, h => by simp only [TreesIn] at h; subst h; rfl
  | t :: ts, gs, h => by simp only [TreesIn] at h; obtain ⟨g', gs', rfl, _, h3⟩ := h; simp [TreesIn.len h3]
theorem news1 (w : World) (p : Value) (T : TypeId) : ∀ j u, [p][j]? = some u → (w.alloc (.cells #[p] T)).cell? ((⟨w.heap.size, 0, none⟩ : Addr).add j) = some u := by
  intro j u hu
  rcases j with _ | j
  · have hp : p = u := by simpa using hu
    subst hp
    exact (Blk.new w T #[p]).cell rfl
  · simp at hu
/-- the row behind a call, at the alloc -/
theorem WS.own4 (h : WS q a c sz l W g k s ts j X v) {gs : List Nat} (h1 : Own1 X (g + 1) 74 1 IsPtr v gs) {Xd w3 : World} (hd : Quiet X Xd) (hm : Mv q Xd w3) (o : Obj) (n : Nat) (hn : gs.length = n) : (w3.alloc o).ownsRow (g + 1) 74 1 v n (gs.map fun x => Value.pointer (some ⟨x, 0, none⟩)) := by
  subst hn
  have hg : q < g := Nat.lt_of_lt_of_le h.ql h.lo
  refine own_ptr (Own1.alloc (Own1.stay h1 (fun b hb hl => ?_)) o)
  have := (h1.block b hb).1
  obtain ⟨m, rfl⟩ := hd
  exact hm.high b (by omega) hl
/-- the box behind the append -/
theorem WS.box5 (h : WS q a c sz l W g k s ts j X v) {Xd w3 w5 : World} (hd : Quiet X Xd) (hm : Mv q Xd w3) (o : Obj) (hgrow : (w3.alloc o).grownBy w5 v.ownBlock) : Blk w5 g 107 #[.int .i64 (k : Int), .string (txt s), .int .i64 0, .slice none 0 0, v] := by
  obtain ⟨gs, h1, h2⟩ := h.row
  have hg : q < g := Nat.lt_of_lt_of_le h.ql h.lo
  have b3 := hm.blk (h.quiet hd).box hg
  refine (b3.alloc o).keep (hgrow.block g (by have := b3.lt; rw [World.size_alloc]; omega) (fun e => ?_))
  have := (h1.block g e.symm).1
  omega
/-- a part more: behind the call, the row's alloc, the append, the store -/
theorem WS.push (h : WS q a c sz l W g k s ts j X v) {Xd w3 w5 : World} {t : Tr} {g1 j' b cap n : Nat} {xs : List Value} {u : Value} (hd : Quiet X Xd) (hm : Mv q Xd w3) (ht : TreeAt w3 X.heap.size t g1) (hp : PSt q a c sz l j' w3)
    {gs : List Nat} (h1 : Own1 X (g + 1) 74 1 IsPtr v gs) (h2 : TreesIn X (fun b => g + 1 ≤ b ∧ v.ownBlock ≠ some b) ts gs) (hl : gs.length = n) (hx : xs = gs.map fun x => Value.pointer (some ⟨x, 0, none⟩))
    (hown : w5.ownsRow (g + 1) 74 1 (.slice (some ⟨b, 0, none⟩) (n + 1) cap) (n + 1) (xs ++ [.pointer (some ⟨g1, 0, none⟩)]))
    (hgrow : (w3.alloc (.cells #[.pointer (some ⟨g1, 0, none⟩)] 74)).grownBy w5 v.ownBlock) (hat : v.ownBlock = some b ∨ b = w3.heap.size + 1) (hu : u = .slice (some ⟨b, 0, none⟩) (n + 1) cap) :
    WS q a c sz l W g k s (ts ++ [t]) j' (w5.setCell ⟨g, 4, none⟩ u) (.slice (some ⟨b, 0, none⟩) (n + 1) cap) := by
  subst hu
  have h' := h.quiet hd
  have hg : q < g := Nat.lt_of_lt_of_le h.ql h.lo
  have hgX := h.box.lt
  have hsz : Xd.heap.size = X.heap.size := by obtain ⟨m, rfl⟩ := hd; rfl
  have hvb : ∀ b', v.ownBlock = some b' → g + 1 ≤ b' ∧ b' < X.heap.size := fun b' hb' => h1.block b' hb'
  have hsz3 := hm.low.size
  have h4 : ∀ b', b' < w3.heap.size → (w3.alloc (.cells #[.pointer (some ⟨g1, 0, none⟩)] 74)).heap[b']? = w3.heap[b']? := fun b' hb' => Below.heap_alloc w3 _ b' hb'
  have h5 : ∀ b', b' < w3.heap.size → v.ownBlock ≠ some b' → w5.heap[b']? = w3.heap[b']? := fun b' hb' hne => (hgrow.block b' (by rw [World.size_alloc]; omega) (fun e => hne e.symm)).trans (h4 b' hb')
  have h6 : ∀ b', b' ≠ g → (w5.setCell ⟨g, 4, none⟩ (.slice (some ⟨b, 0, none⟩) (n + 1) cap)).heap[b']? = w5.heap[b']? := fun b' hb' => Below.heap_setCell w5 ⟨g, 4, none⟩ _ b' hb'
  have hsz5 : w3.heap.size + 1 ≤ w5.heap.size := by have := hgrow.size; rw [World.size_alloc] at this; exact this
  have hqv : v.ownBlock ≠ some q := fun e => by have := hvb q e; omega
  have hgv : v.ownBlock ≠ some g := fun e => by have := hvb g e; omega
  have hW3 : W.heap.size ≤ X.heap.size := h.mv.low.size
  have hb1 : ∀ b', X.heap.size ≤ b' → b' < w3.heap.size → b' ≠ b := fun b' k1 k2 e => by
    rcases hat with e2 | e2
    · have := hvb b e2; omega
    · omega
  -- the parser's state
  have st4 := hp.keep ((Below.refl w3.heap.size w3).alloc (Nat.le_refl _) (.cells #[.pointer (some ⟨g1, 0, none⟩)] 74))
  have bl5 : Below g (w3.alloc (.cells #[.pointer (some ⟨g1, 0, none⟩)] 74)) w5 := (Below.refl _ _).grown hgrow (by rw [World.size_alloc]; omega) (fun b' hb' => by have := hvb b' hb'; omega)
  have st5 : PSt q a c sz l j' w5 := st4.mv (bl5.mono (Nat.le_of_lt hg)) (st4.box.below bl5 hg) st4.le
  have mv3 : Mv q W w3 := h'.mv.trans hm
  have mv5 : Mv q W w5 := by
    refine ⟨(mv3.low.trans ((Below.refl w3.heap.size w3).alloc (Nat.le_refl _) _ |>.mono (by have := hp.box.lt; omega))).trans (bl5.mono (Nat.le_of_lt hg)), fun b' k1 k2 => ?_⟩
    rw [h5 b' (by have := mv3.low.size; omega) (fun e => by have := hvb b' e; have := h.lo; omega)]
    exact mv3.high b' k1 k2
  have bx3 : Blk w3 g 107 #[.int .i64 (k : Int), .string (txt s), .int .i64 0, .slice none 0 0, v] := hm.blk h'.box hg
  have bx5 : Blk w5 g 107 #[.int .i64 (k : Int), .string (txt s), .int .i64 0, .slice none 0 0, v] := bx3.keep (h5 g (by omega) hgv)
  refine ⟨mv5.setNew (p := ⟨g, 4, none⟩) _ (Nat.le_of_lt hg) h.lo, st5.setFar (p := ⟨g, 4, none⟩) _ hg, by have := bx5.set_ 4 (.slice (some ⟨b, 0, none⟩) (n + 1) cap); simpa using this, h.lo, h.ql, gs ++ [g1], ?_, ?_⟩
  · refine Own1.stay (w := w5) ⟨_, by rw [List.length_append, hl]; exact hown, ?_⟩ (fun b' hb' _ => h6 b' ?_)
    · rw [hx]
      refine ⟨by simp, fun i y hy => ?_⟩
      have e : (gs.map fun x => Value.pointer (some ⟨x, 0, none⟩)) ++ [Value.pointer (some ⟨g1, 0, none⟩)] = (gs ++ [g1]).map fun x => Value.pointer (some ⟨x, 0, none⟩) := by simp
      rw [e, Nat.mul_one]
      unfold IsPtr
      have hlt := (List.getElem?_eq_some_iff.1 hy).1
      apply List.ext_getElem?
      intro m
      rw [List.getElem?_take]
      rcases m with _ | m
      · simp only [Nat.zero_lt_one, if_true, List.getElem?_drop, Nat.add_zero, List.getElem?_map, hy, Option.map_some]
        rfl
      · simp
    · have : b' = b := by simp [Value.ownBlock] at hb'; exact hb'.symm
      subst this
      rcases hat with e2 | e2
      · have := hvb b' e2; omega
      · omega
  · refine TreesIn.app ?_ ?_
    · have t3 : TreesIn (w5.setCell ⟨g, 4, none⟩ (.slice (some ⟨b, 0, none⟩) (n + 1) cap)) (fun b' => (g + 1 ≤ b' ∧ v.ownBlock ≠ some b') ∧ b' < X.heap.size) ts gs := by
        refine TreesIn.stay (w := X) (fun b' hb' hl => ?_) (h2.imp (fun b' hb' hl => ⟨hb', hl⟩))
        rw [h6 b' (by omega), h5 b' (by omega) hb'.1.2, hm.high b' (by omega) (by omega)]
        obtain ⟨m, rfl⟩ := hd
        rfl
      refine t3.imp (fun b' hb' _ => ⟨hb'.1.1, fun e => ?_⟩)
      have e' : b = b' := by simpa [Value.ownBlock] using e
      subst e'
      rcases hat with e2 | e2
      · exact hb'.1.2 e2
      · omega
    · have t3 : TreeIn (w5.setCell ⟨g, 4, none⟩ (.slice (some ⟨b, 0, none⟩) (n + 1) cap)) (fun b' => X.heap.size ≤ b' ∧ b' < w3.heap.size) t g1 := by
        refine TreeIn.stay (w := w3) (fun b' hb' hl => ?_) (TreeIn.imp (fun b' hb' hl => ⟨hb', hl⟩) ht)
        rw [h6 b' (by omega), h5 b' hl (fun e => by have := hvb b' e; omega)]
      refine t3.imp (fun b' hb' _ => ⟨by omega, fun e => ?_⟩)
      have e' : b = b' := by simpa [Value.ownBlock] using e
      subst e'
      exact hb1 b hb'.1 hb'.2 rfl
end
end Go.Proofs.YtidkbodmiegbkaaGreatDoor
namespace Go.Proofs.YtidkbodmiegbkaaGreatDoor
set_option linter.unusedSimpArgs false
set_option linter.unusedVariables false
open Go.RowKit
theorem placesL_app : ∀ (A B : List Tr) (p : Nat), placesL (A ++ B) p = placesL A p ++ placesL B (p + sizeL A)
  | [], B, p => by simp [placesL, sizeL]
  | t :: A, B, p => by simp only [List.cons_append, placesL, sizeL, placesL_app A B]; rw [Nat.add_assoc]
theorem flatL_app : ∀ (A B : List Tr) (p : Nat), flatL (A ++ B) p = flatL A p ++ flatL B (p + sizeL A)
  | [], B, p => by simp [flatL, sizeL]
  | t :: A, B, p => by simp only [List.cons_append, flatL, sizeL, flatL_app A B, List.append_assoc]; rw [Nat.add_assoc]
theorem sizeL_app : ∀ (A B : List Tr), sizeL (A ++ B) = sizeL A + sizeL B
  | [], B => by simp [sizeL]
  | t :: A, B => by simp only [List.cons_append, sizeL, sizeL_app A B]; omega
theorem deepL_app : ∀ (A B : List Tr), deepL (A ++ B) = max (deepL A) (deepL B)
  | [], B => by simp [deepL]
  | t :: A, B => by simp only [List.cons_append, deepL, deepL_app A B]; omega
theorem placesL_len : ∀ (l : List Tr) (p : Nat), (placesL l p).length = l.length
  | [], _ => rfl
  | t :: l, p => by simp only [placesL, List.length_cons, placesL_len l]
theorem len_le_size : ∀ (l : List Tr), l.length ≤ sizeL l
  | [] => by simp
  | t :: l => by simp only [List.length_cons, sizeL]; have := len_le_size l; have := size_pos t; omega
theorem take_snoc1 {α : Type} {l : List α} {j : Nat} {x : α} (h : l[j]? = some x) : l.take (j + 1) = l.take j ++ [x] := by
  rw [List.take_add_one, h]; rfl
theorem sizeL_take_le : ∀ (l : List Tr) (j : Nat), sizeL (l.take j) ≤ sizeL l
  | [], _ => by simp [sizeL]
  | t :: l, 0 => by simp [sizeL]
  | t :: l, j + 1 => by simp only [List.take_succ_cons, sizeL]; have := sizeL_take_le l j; omega
theorem size_mem : ∀ {l : List Tr} {t : Tr}, t ∈ l → t.size ≤ sizeL l
  | u :: l, t, h => by
    simp only [sizeL]
    rcases List.mem_cons.1 h with rfl | h
    · omega
    · have := size_mem h; omega
/-- a number's cell -/
def IsNat : List Value → Nat → Prop := fun x n => x = [.int .i64 (n : Int)]
/-- a node's cells -/
def IsEN : List Value → EN × Value → Prop := fun x p => x = [.int .i64 (p.1.kind : Int), .string (txt p.1.text), .int .i64 p.1.num, p.2] ∧ ∃ a n c, p.2 = .slice a n c
/-- a list of nodes of the call's own -/
structure EL (X : World) (B : Nat) (v : Value) (es : List (EN × Value)) : Prop where
  main : Own1 X B 40 4 IsEN v es
  kids : ∀ (i : Nat) (p : EN × Value), es[i]? = some p → Own1 X B 3 1 IsNat p.2 p.1.kids
  apart : ∀ (i j : Nat) (p p' : EN × Value) (b : Nat), i ≠ j → es[i]? = some p → es[j]? = some p' → p.2.ownBlock = some b → p'.2.ownBlock ≠ some b
theorem Own1.ne_block {α β : Type} {w : World} {b b' s s' : Nat} {e e' : TypeId} {R : List Value → α → Prop} {R' : List Value → β → Prop} {v v' : Value} {l : List α} {l' : List β} (h : Own1 w b e s R v l) (h' : Own1 w b' e' s' R' v' l') (hne : e ≠ e') : ∀ g, v.ownBlock = some g → v'.ownBlock ≠ some g := by
  intro g hg hg'
  obtain ⟨xs, h1, _⟩ := h
  obtain ⟨ys, k1, _⟩ := h'
  rcases h1.2 with ⟨rfl, _⟩ | ⟨g1, cap, cur, rfl, r2, r3, _⟩
  · cases hg
  · rcases k1.2 with ⟨rfl, _⟩ | ⟨g2, cap2, cur2, rfl, q2, q3, _⟩
    · cases hg'
    · have e1 : g1 = g := by simpa [Value.ownBlock] using hg
      have e2 : g2 = g := by simpa [Value.ownBlock] using hg'
      subst e1
      subst e2
      rw [r3] at q3
      injection q3 with q3
      injection q3 with _ q3
      exact hne q3
/-- what stands in it, and that it may be written -/
theorem Own1.at00 {α : Type} {w : World} {base size n c : Nat} {e : TypeId} {R : List Value → α → Prop} {l : List α} {a : Option Addr} (h : Own1 w base e size R (.slice a n c) l) (hn : 0 < l.length) (hs : 0 < size) : ∃ g, a = some ⟨g, 0, none⟩ ∧ base ≤ g ∧ g < w.heap.size ∧ (∀ o, w.frozen? ⟨g, o, none⟩ = false) ∧ ∀ (k : Nat) (y : α), l[k]? = some y → ∃ x : List Value, x.length = size ∧ R x y ∧ ∀ (j : Nat) (u : Value), x[j]? = some u → w.cell? ⟨g, k * size + j, none⟩ = some u := by
  have hr := h.read hs
  have hb := h.block
  have hf := h.form
  obtain ⟨xs, h1, h2⟩ := h
  obtain ⟨g, rfl⟩ : ∃ g, a = some ⟨g, 0, none⟩ := by
    rcases h1.2 with ⟨h', h0⟩ | ⟨g', cap', cur, h', _⟩
    · omega
    · injection h' with e1; exact ⟨g', e1⟩
  have hg := hb g rfl
  refine ⟨g, rfl, hg.1, hg.2, fun o => ?_, fun k y hy => ?_⟩
  · obtain ⟨a', c', he⟩ := hf
    injection he with _ e2 e3
    subst e2
    exact h1.frozenAt o
  · obtain ⟨b, off, x, he, _, hx, hR, hc⟩ := hr.at_ hy
    injection he with he
    injection he with e1 e2
    subst e1 e2
    refine ⟨x, hx, hR, fun j u hu => ?_⟩
    have := hc j u hu
    rwa [Nat.zero_add] at this
mutual
theorem deep_le : ∀ (t : Tr), t.deep ≤ t.size
  | .node _ _ _ ks => by simp only [Tr.deep, Tr.size]; have := deepL_le ks; omega
theorem deepL_le : ∀ (l : List Tr), deepL l ≤ sizeL l
  | [] => by simp [deepL]
  | t :: ts => by simp only [deepL, sizeL]; have := deep_le t; have := deepL_le ts; omega
end
theorem TreesIn.get {w : World} {S : Nat → Prop} : ∀ {ts : List Tr} {gs : List Nat} {j : Nat} {t : Tr} {g : Nat}, TreesIn w S ts gs → ts[j]? = some t → gs[j]? = some g → TreeIn w S t g
  | [], _, j, t, g, _, h1, _ => by simp at h1
  | u :: ts, gs, 0, t, g, h, h1, h2 => by
    simp only [TreesIn] at h
    obtain ⟨g', gs', rfl, h3, _⟩ := h
    simp at h1 h2
    subst h1 h2
    exact h3
  | u :: ts, gs, j + 1, t, g, h, h1, h2 => by
    simp only [TreesIn] at h
    obtain ⟨g', gs', rfl, _, h4⟩ := h
    simp only [List.getElem?_cons_succ] at h1 h2
    exact TreesIn.get h4 h1 h2
theorem set_mid {α : Type} (A B : List α) (x y : α) (p : Nat) (h : A.length = p) : (A ++ x :: B).set p y = A ++ y :: B := by
  subst h
  rw [List.set_append_right _ _ (Nat.le_refl _), Nat.sub_self]
  rfl
theorem get_mid {α : Type} (A B : List α) (x : α) (p : Nat) (h : A.length = p) : (A ++ x :: B)[p]? = some x := by
  subst h
  rw [List.getElem?_append_right (Nat.le_refl _), Nat.sub_self]
  rfl
theorem wpList_append_list2 {P : Program} {α : Type} {ops : Array Oper} {rest : List Oper} {o : Oper} {a : Act} {Q : Exit → Act → World → Prop} {w : World} (hgd : o.guard = none) (s x : Operand) (t : TypeId)
    (ho : o.op = .call { callee := .builtin .append, args := #[s, x], argTypes := #[t, t] })
    (base B : Nat) (e : TypeId) (i : TypeInfo) (z : Value) (size bytes : Nat) (ht : P.underlying t = some (.slice e)) (hi : P.info? e = some i) (hz : i.zero = some z)
    (hsize : i.size = size) (hby : i.bytes = bytes) (hzs : z.cells.size = size) (hsz : 0 < size) {R : List Value → α → Prop} {l m : List α}
    (v : Value) (hs : a.eval s = v) (hown : Own1 w base e size R v l) (A : Option Addr) (n c : Nat) (hx : a.eval x = .slice A n c) (hsrc : SlR w B size R (.slice A n c) m)
    (N : Nat) (hN : N = l.length + n) (h1 : ∀ x y, R x y → ∀ u ∈ x, u.oneCell' = true) (h63 : l.length + n ≤ maxLen) (hbytes : (l.length + n) * bytes ≤ 140737488355328) (hbase : base ≤ w.heap.size)
    (h : ∀ (a' : Option Addr) (c' : Nat) w', Own1 w' base e size R (.slice a' N c') (l ++ m) → w.grownBy w' v.ownBlock → ((Value.slice a' N c').ownBlock = v.ownBlock ∨ (Value.slice a' N c').ownBlock = some w.heap.size) → wpList P ops Q rest (a.put o.dst (.slice a' N c')) w') : wpList P ops Q (o :: rest) a w := by
  refine wpList_plain hgd fun K hK => ?_
  obtain ⟨v', w', hrun, h2, h3, h4⟩ := run_append_list (P := P) w base B t o.type e i z size bytes ht hi hz hsize hby hzs hsz v hown A n c hsrc h1 h63 hbytes hbase
  unfold Oper.wp execOp
  simp only [ho, resolve, invoke, builtin, Sem.run_bind, Sem.run_pure, Result.andThen_ok, List.map_toArray, List.map_cons, List.map_nil, hs, hx, hrun]
  obtain ⟨a', c', rfl⟩ := h2.form
  have e : (l ++ m).length = N := by rw [hN, List.length_append, hsrc.len]
  rw [e] at h2 h4 ⊢
  exact hK _ _ (h a' c' w' h2 h3 h4)
section
variable {X : World} {B : Nat} {v : Value} {es : List (EN × Value)}
theorem EL.nil (X : World) (B : Nat) : EL X B (.slice none 0 0) [] := ⟨⟨[], ⟨rfl, .inl ⟨rfl, rfl⟩⟩, FlatR.nil_⟩, fun i p h => by simp at h, fun i j p p' b _ h => by simp at h⟩
theorem EL.alloc (h : EL X B v es) (o : Obj) : EL (X.alloc o) B v es := ⟨h.main.alloc o, fun i p hp => (h.kids i p hp).alloc o, h.apart⟩
theorem EL.drewN (h : EL X B v es) (n : Nat) : EL (X.drewN n) B v es := ⟨h.main.drewN n, fun i p hp => (h.kids i p hp).drewN n, h.apart⟩
/-- a node more -/
theorem EL.push (h : EL X B v es) {X' : World} {v' : Value} {e : EN} (he : e.kids = []) (hm : Own1 X' B 40 4 IsEN v' (es ++ [(e, .slice none 0 0)])) (hg : X.grownBy X' v.ownBlock) : EL X' B v' (es ++ [(e, .slice none 0 0)]) := by
  refine ⟨hm, fun i p hp => ?_, fun i j p p' b hij hi hj hb => ?_⟩
  · rcases Nat.lt_or_ge i es.length with hl | hl
    · rw [List.getElem?_append_left hl] at hp
      exact (h.kids i p hp).kept1 h.main (by decide) hg
    · rw [List.getElem?_append_right hl] at hp
      have : i - es.length = 0 := by
        rcases Nat.eq_zero_or_pos (i - es.length) with h0 | h0
        · exact h0
        · rw [List.getElem?_eq_none (by simp; omega)] at hp; cases hp
      rw [this] at hp
      simp at hp
      subst hp
      rw [he]
      exact ⟨[], ⟨rfl, .inl ⟨rfl, rfl⟩⟩, FlatR.nil_⟩
  · have key : ∀ (i : Nat) (p : EN × Value), (es ++ [(e, Value.slice none 0 0)])[i]? = some p → es[i]? = some p ∨ p.2 = .slice none 0 0 := by
      intro i p hp
      rcases Nat.lt_or_ge i es.length with hl | hl
      · rw [List.getElem?_append_left hl] at hp; exact .inl hp
      · rw [List.getElem?_append_right hl] at hp
        have : p ∈ [(e, Value.slice none 0 0)] := List.mem_iff_getElem?.2 ⟨_, hp⟩
        simp at this
        subst this
        exact .inr rfl
    rcases key i p hi with h1 | h1
    · rcases key j p' hj with h2 | h2
      · exact h.apart i j p p' b hij h1 h2 hb
      · rw [h2]; exact fun e => by cases e
    · rw [h1] at hb; cases hb
theorem flat_set3 {xs : List Value} {p : Nat} {e : EN} {kv kv' : Value} {ks : List Nat} (h : FlatR 4 IsEN xs es) (hp : es[p]? = some (e, kv)) (hkv : ∃ a n c, kv' = .slice a n c) : FlatR 4 IsEN (xs.set (p * 4 + 3) kv') (es.set p (⟨e.kind, e.text, e.num, ks⟩, kv')) := by
  have hpl := (List.getElem?_eq_some_iff.1 hp).1
  have hle : p * 4 + 4 ≤ xs.length := by rw [h.1]; omega
  refine ⟨by rw [List.length_set, List.length_set]; exact h.1, fun i y hy => ?_⟩
  by_cases hi : i = p
  · subst hi
    rw [List.getElem?_set_self hpl] at hy
    injection hy with hy
    subst hy
    have h0 := (h.2 i _ hp).1
    refine ⟨?_, hkv⟩
    have e1 : ((xs.set (i * 4 + 3) kv').drop (i * 4)).take 4 = ((xs.drop (i * 4)).take 4).set 3 kv' := by
      apply List.ext_getElem?
      intro m
      rw [List.getElem?_set, List.getElem?_take, List.length_take, List.length_drop]
      split
      · rename_i hm
        rw [List.getElem?_drop, List.getElem?_set]
        by_cases h3 : 3 = m
        · subst h3
          simp only [if_true]
          rw [if_pos (by omega), if_pos (by omega)]
        · rw [if_neg (by omega), if_neg h3, List.getElem?_take_of_lt hm, List.getElem?_drop]
      · rename_i hm
        rw [if_neg (by omega), List.getElem?_take, if_neg hm]
    rw [e1, h0]
    rfl
  · rw [List.getElem?_set_ne (fun e => hi e.symm)] at hy
    have e1 : ((xs.set (p * 4 + 3) kv').drop (i * 4)).take 4 = (xs.drop (i * 4)).take 4 := by
      apply List.ext_getElem?
      intro m
      rw [List.getElem?_take, List.getElem?_take]
      split
      · rw [List.getElem?_drop, List.getElem?_drop, List.getElem?_set_ne (by omega)]
      · rfl
    rw [e1]
    exact h.2 i y hy
/-- a part more in a node's row: behind the alloc of the number, the append, the store -/
theorem EL.kid {n c g p q : Nat} {e : EN} {kv kv' : Value} {X2 : World} (h : EL X B (.slice (some ⟨g, 0, none⟩) n c) es) (hp : es[p]? = some (e, kv)) (hkv : ∃ a n c, kv' = .slice a n c) (o : Obj)
    (hown : Own1 X2 B 3 1 IsNat kv' (e.kids ++ [q])) (hg : (X.alloc o).grownBy X2 kv.ownBlock) (hat : kv'.ownBlock = kv.ownBlock ∨ kv'.ownBlock = some (X.heap.size + 1)) :
    EL (X2.setCell ⟨g, p * 4 + 3, none⟩ kv') B (.slice (some ⟨g, 0, none⟩) n c) (es.set p (⟨e.kind, e.text, e.num, e.kids ++ [q]⟩, kv')) := by
  have h1 := h.alloc o
  have hpl := (List.getElem?_eq_some_iff.1 hp).1
  have m2 : Own1 X2 B 40 4 IsEN (.slice (some ⟨g, 0, none⟩) n c) es := h1.main.kept1 (h1.kids p _ hp) (by decide) hg
  have hnl : n = es.length := by obtain ⟨a', c', he⟩ := m2.form; injection he
  have kk : ∀ (i : Nat) (x : EN × Value), i ≠ p → es[i]? = some x → Own1 X2 B 3 1 IsNat x.2 x.1.kids := fun i x hi hx => (h1.kids i x hx).stay (fun b hb hl => hg.block b hl (fun e' => h.apart i p x _ b hi hx hp hb e'.symm))
  have far : ∀ {v1 : Value} {l1 : List Nat}, Own1 X2 B 3 1 IsNat v1 l1 → Own1 (X2.setCell ⟨g, p * 4 + 3, none⟩ kv') B 3 1 IsNat v1 l1 := fun ho => ho.stay (fun b hb _ => Below.heap_setCell X2 ⟨g, p * 4 + 3, none⟩ kv' b (fun e' => m2.ne_block ho (by decide) g rfl (by rw [hb]; exact congrArg some e')))
  refine ⟨?_, fun i x hx => ?_, fun i j x x' b hij hi hj hb => ?_⟩
  · obtain ⟨xs, k1, k2⟩ := m2
    subst hnl
    exact ⟨_, by rw [List.length_set]; exact (k1.stored (p * 4 + 3) kv').1, flat_set3 k2 hp hkv⟩
  · by_cases hi : i = p
    · subst hi
      rw [List.getElem?_set_self hpl] at hx
      injection hx with hx
      subst hx
      exact far hown
    · rw [List.getElem?_set_ne (fun e' => hi e'.symm)] at hx
      exact far (kk i x hi hx)
  · have old : ∀ (i : Nat) (x : EN × Value) (b : Nat), es[i]? = some x → x.2.ownBlock = some b → b < X.heap.size := fun i x b hx hb => ((h.kids i x hx).block b hb).2
    by_cases hip : i = p
    · subst hip
      rw [List.getElem?_set_self hpl] at hi
      injection hi with hi
      subst hi
      rw [List.getElem?_set_ne hij] at hj
      intro e'
      have hb' : kv'.ownBlock = some b := hb
      rcases hat with h2 | h2
      · exact h.apart i j _ _ b hij hp hj (by rw [← h2]; exact hb') e'
      · rw [h2] at hb'
        injection hb' with hb'
        have := old j x' b hj e'
        omega
    · rw [List.getElem?_set_ne (fun e' => hip e'.symm)] at hi
      by_cases hjp : j = p
      · subst hjp
        rw [List.getElem?_set_self hpl] at hj
        injection hj with hj
        subst hj
        intro e'
        have hb' : kv'.ownBlock = some b := e'
        rcases hat with h2 | h2
        · exact h.apart i j _ _ b hij hi hp hb (by rw [← h2]; exact hb')
        · rw [h2] at hb'
          injection hb' with hb'
          have := old i x b hi hb
          omega
      · rw [List.getElem?_set_ne (fun e' => hjp e'.symm)] at hj
        exact h.apart i j x x' b hij hi hj hb
end
end Go.Proofs.YtidkbodmiegbkaaGreatDoor
