/- Taken over out of another chapter (its text Right): what is needed here. Taken over out of another chapter (its text EJoinPlain): what is needed here. Taken over out of another chapter (its text ERg0): what is needed here. Taken over out of another chapter (its text EMay): what is needed here. Taken over out of another chapter (its text EJoin): what is needed here. Taken over out of another chapter (its text ERg1): what is needed here. Taken over out of another chapter (its text ETl0): what is needed here. Taken over out of another chapter (its text ETl1): what is needed here. Taken over out of another chapter (its text ETl3): what is needed here. Taken over out of another chapter (its text ERt0): what is needed here. Taken over out of another chapter (its text CpO): what is needed here. Taken over out of another chapter (its text CpQ): what is needed here. Taken over out of another chapter (its text CpS): what is needed here. Taken over out of another chapter (its text CpV): what is needed here. Taken over out of another chapter (its text CrA): what is needed here. Taken over out of another chapter (its text CrB): what is needed here. Taken over out of another chapter (its text ERg2): what is needed here. Taken over out of another chapter (its text EPt0): what is needed here. Taken over out of another chapter (its text EPt1): what is needed here. Taken over out of another chapter (its text DoorC): what is needed here. Taken over out of another chapter (its text ETw8): what is needed here. -/
import Derived.Test.YtidkbodmiegbkaaGreatDoorProg
import Derived.Test.YtidkbodmiegbkaaGreatDoorShelf
import Derived.Test.YtidkbodmiegbkaaGreatDoorLM1
import Derived.Below
import Derived.BigQuiet
import Derived.Deep.AppendLies
import Derived.Deep.Draws
import Derived.Deep.Fields
import Derived.Deep.QuietTactic
import Derived.Deep.Slices
import Derived.Laws.BytesString
import Derived.Laws.IdiomStrings
import Derived.Lib.AppendStr
import Derived.Lib.Hide
import Derived.Lib.ItoaNum
import Derived.Lib.ParseIntB
import Derived.Maps.AppendAt
import Derived.Outline
import Derived.OwnWalk
import Derived.ProofKit
import Derived.WalkKit
import Derived.WalkMore
import Derived.WalkSpells
import Derived.Deep.RegionHeld3
import Derived.Laws.Rows
import Derived.Lib.Builder
import Derived.Lib.FrozenHead
import Derived.Test.YtidkbodmiegbkaaGreatDoorLM3
import Derived.BigRegion
import Derived.Deep.LoopGhost
import Derived.Deep.RegionHeld2
import Derived.Deep.RegionLaw
import Derived.Defers
import Derived.Laws.Pointers
import Derived.Recover
import Derived.RegionTactic
import Derived.StillTailTactics
import Derived.Tactics
import Derived.Tactics2
import Derived.WalkSmall
import Derived.Test.YtidkbodmiegbkaaGreatDoorLM2
import Derived.IntWalk
import Derived.Laws.EntriesVeiled
import Derived.Deep.CutRange
import Derived.Laws.Cover1
import Derived.Laws.MakeOwn
import Derived.Lib.SliceRun
import Derived.Orders
import Derived.Deep.CutBlock
import Derived.Lib.CutLaws
import Derived.Lib.SlicesS
import Derived.ChangeOld
import Derived.Deep.DeepHandedRow
import Derived.Deep.Strs
import Derived.JoinedCond
import Derived.Lib.LaidTab
import Derived.OpenShut
import Derived.ShutString
import Derived.Stop.LaidErr
namespace Go.Proofs.YtidkbodmiegbkaaGreatDoor
set_option linter.unusedSimpArgs false
set_option linter.unusedVariables false
open Go.RowKit
theorem rightN_of {l : List Nat} {c : Nat} (h : l[0]? = some c) : rightN l = (decide (l.length ≤ 32) && letterN c && l.all furtherN) := by
  cases l with
  | nil => simp at h
  | cons a t => simp at h; subst h; rfl
theorem letter_any (n : Nat) (w : World) : Calls Tryz.prog 68 #[.int .u8 (n : Int)] w fun e w' => e = .returned (.bool (letterN n)) ∧ Quiet w w' := by
  by_cases h1 : 65 ≤ n
  · by_cases h2 : n ≤ 90
    · have hv : letterN n = true := by simp [letterN]; omega
      rw [hv]; clear hv
      go_enter Tryz.func68, Tryz.ntmps68
      go_wp2_with fail
      go_ret
      exact ⟨rfl, Quiet.refl _⟩
    · have a2 : decide ((n : Int) ≤ 90) = false := by simp; omega
      by_cases h3 : 97 ≤ n
      · by_cases h4 : n ≤ 122
        · have hv : letterN n = true := by simp [letterN]; omega
          have a4 : decide ((n : Int) ≤ 122) = true := by simp; omega
          rw [hv]; clear hv
          go_enter Tryz.func68, Tryz.ntmps68
          go_wp2_with fail
          go_ret
          exact ⟨rfl, Quiet.refl _⟩
        · have hv : letterN n = false := by simp [letterN]; omega
          have a4 : decide ((n : Int) ≤ 122) = false := by simp; omega
          rw [hv]; clear hv
          go_enter Tryz.func68, Tryz.ntmps68
          go_wp2_with fail
          go_ret
          exact ⟨rfl, Quiet.refl _⟩
      · have hv : letterN n = false := by simp [letterN]; omega
        have a3 : decide (97 ≤ (n : Int)) = false := by simp; omega
        rw [hv]; clear hv
        go_enter Tryz.func68, Tryz.ntmps68
        go_wp2_with fail
        go_ret
        exact ⟨rfl, Quiet.refl _⟩
  · have hv : letterN n = false := by simp [letterN]; omega
    have a1 : decide (65 ≤ (n : Int)) = false := by simp; omega
    have a3 : decide (97 ≤ (n : Int)) = false := by simp; omega
    have h3 : ¬ 97 ≤ n := by omega
    rw [hv]; clear hv
    go_enter Tryz.func68, Tryz.ntmps68
    go_wp2_with fail
    go_ret
    exact ⟨rfl, Quiet.refl _⟩
theorem letter_of (n : Nat) (b : Bool) (hb : letterN n = b) (w : World) : Calls Tryz.prog 68 #[.int .u8 (n : Int)] w fun e w' => e = .returned (.bool b) ∧ Quiet w w' := hb ▸ letter_any n w
theorem all_take {l : List Nat} {k c : Nat} (h : l[k]? = some c) (p : Nat → Bool) (h1 : (l.take k).all p = true) (h2 : p c = true) : (l.take (k + 1)).all p = true := by
  have hk := (List.getElem?_eq_some_iff.1 h).1
  rw [List.take_succ_eq_append_getElem hk, (List.getElem?_eq_some_iff.1 h).2, List.all_append, h1]
  simp [h2]
theorem all_no {l : List Nat} {k c : Nat} (h : l[k]? = some c) (p : Nat → Bool) (h2 : p c = false) : l.all p = false := by
  rw [List.all_eq_false]
  exact ⟨c, List.mem_iff_getElem?.2 ⟨k, h⟩, by simp [h2]⟩
set_option maxHeartbeats 2000000 in
theorem right_any (s : ByteArray) (hs : s.size ≤ maxLen) (w : World) : Calls Tryz.prog 40 #[.string s] w fun e w' => e = .returned (.bool (rightN (bs s))) ∧ Quiet w w' := by
  unfold maxLen at hs
  obtain ⟨n, hn⟩ : ∃ n, s.size = n := ⟨_, rfl⟩
  have Hn := Lib.hid hn
  have hln : (bs s).length = n := by rw [bs_len, hn]
  rw [hn] at hs
  have hn' : (s.size : Int) = (n : Int) := by rw [hn]
  clear hn
  by_cases h0 : n = 0
  · have hv : rightN (bs s) = false := by
      have : bs s = [] := List.eq_nil_of_length_eq_zero (by omega)
      rw [this]; rfl
    have HV := Lib.hid hv
    subst h0
    clear hv hln
    go_enter Tryz.func40, Tryz.ntmps40
    go_wp2_with fail
    go_ret
    exact ⟨by rw [HV.out]; rfl, Quiet.refl _⟩
  have h0' : ((n : Int) == 0) = false := by simp; omega
  obtain ⟨c0, hc0, c0256⟩ := get_bs (s := s) (k := 0) (by rw [Hn.out]; omega)
  have hr := rightN_of hc0
  have j0 := fun W => index_txt W 9 Tryz.underlying9 hc0 .i64 0 rfl
  have J0 := Lib.hid j0
  have Hc0 := Lib.hid hc0
  clear j0 hc0
  by_cases h32 : 32 < n
  · have hv : rightN (bs s) = false := by rw [hr, hln]; simp; omega
    have HV := Lib.hid hv
    have j0 := J0.out
    clear hv hln hr
    go_enter Tryz.func40, Tryz.ntmps40
    go_wp2_with fail
    go_ret
    exact ⟨by rw [HV.out]; rfl, Quiet.refl _⟩
  have h32' : decide (32 < (n : Int)) = false := by simp; omega
  rw [hln, show decide (n ≤ 32) = true by simp; omega, Bool.true_and] at hr
  rcases hl0 : letterN c0 with _ | _
  · have hv : rightN (bs s) = false := by rw [hr, hl0]; rfl
    have HV := Lib.hid hv
    have L0 := Lib.hid (fun W => letter_of c0 false hl0 W)
    have j0 := J0.out
    clear hv hln hr hl0
    go_enter Tryz.func40, Tryz.ntmps40
    go_wp2_with (go_at_call 68; refine (L0.out _).mono ?_; rintro e w1 ⟨rfl, q1⟩)
    go_ret
    exact ⟨by rw [HV.out]; rfl, q1⟩
  rw [hl0, Bool.true_and] at hr
  have L0 := Lib.hid (fun W => letter_of c0 true hl0 W)
  have Hr := Lib.hid hr
  have Hln := Lib.hid hln
  have Hfur0 := Lib.hid (show furtherN c0 = true by simp [furtherN, hl0])
  have j0 := J0.out
  clear hr hln hl0
  go_enter Tryz.func40, Tryz.ntmps40
  go_wp2_with (go_at_call 68; refine (L0.out _).mono ?_; rintro e w1 ⟨rfl, q1⟩)
  go_loopw [21] (fun i wr => ∃ k : Nat, 0 ≤ k ∧ k ≤ n ∧ i = .int .i64 k ∧ Hid (((bs s).take k).all furtherN = true) ∧ Quiet w wr) (fun i _ => n - (intOf i).toNat)
  case atStart => exact ⟨0, by omega, by omega, rfl, by simp [Hid], q1⟩
  case round =>
    obtain ⟨k, hk1, hk, rfl, hin, hq⟩ := hrel
    clear j0 q1
    have b0 : (0 : Int) ≤ (k : Int) := Int.natCast_nonneg _
    by_cases hlt : k < n
    · obtain ⟨c, hc, c256⟩ := get_bs (s := s) (k := k) (by rw [Hn.out]; exact hlt)
      have i1 := fun W => index_txt W 9 Tryz.underlying9 hc .i64 _ rfl

      have hcase : (letterN c = true ∧ furtherN c = true) ∨ (letterN c = false ∧ furtherN c = true ∧ 48 ≤ c ∧ c ≤ 57) ∨ (letterN c = false ∧ furtherN c = true ∧ 57 < c ∧ c = 95) ∨ (letterN c = false ∧ furtherN c = false ∧ c < 48 ∧ c ≠ 95) ∨ (letterN c = false ∧ furtherN c = false ∧ 57 < c ∧ c ≠ 95) := by
        rcases h : letterN c with _ | _
        · have e : furtherN c = decide ((48 ≤ c ∧ c ≤ 57) ∨ c = 95) := by simp [furtherN, h]
          rw [e]
          by_cases h1 : c < 48
          · right; right; right; left; refine ⟨rfl, ?_, h1, by omega⟩; simp; omega
          · by_cases h2 : c ≤ 57
            · right; left; refine ⟨rfl, ?_, by omega, h2⟩; simp; omega
            · by_cases h3 : c = 95
              · right; right; left; refine ⟨rfl, ?_, by omega, h3⟩; simp; omega
              · right; right; right; right; refine ⟨rfl, ?_, by omega, h3⟩; simp; omega
        · left; exact ⟨rfl, by simp [furtherN, h]⟩
      rcases hcase with ⟨hl, hf⟩ | ⟨hl, hf, x1, x2⟩ | ⟨hl, hf, x1, x2⟩ | ⟨hl, hf, x1, x2⟩ | ⟨hl, hf, x1, x2⟩
      · have L1 := Lib.hid (fun W => letter_of c true hl W)
        have HN := Lib.hid (all_take hc furtherN hin.out hf)
        clear hc hf hl
        go_wp2_with (go_at_call 68; refine (L1.out _).mono ?_; rintro e w2 ⟨rfl, q2⟩)
        go_roundw
        case rel => exact ⟨k + 1, by omega, by omega, by go_num, HN.out, hq.trans q2⟩
        case measure => simp [intOf]; omega
      · have L1 := Lib.hid (fun W => letter_of c false hl W)
        have y1 : decide ((c : Int) < 48) = false := by simp; omega
        have y2 : decide (57 < (c : Int)) = false := by simp; omega
        have HN := Lib.hid (all_take hc furtherN hin.out hf)
        clear hc hf hl
        go_wp2_with (go_at_call 68; refine (L1.out _).mono ?_; rintro e w2 ⟨rfl, q2⟩)
        go_roundw
        case rel => exact ⟨k + 1, by omega, by omega, by go_num, HN.out, hq.trans q2⟩
        case measure => simp [intOf]; omega
      · have L1 := Lib.hid (fun W => letter_of c false hl W)
        have y1 : decide ((c : Int) < 48) = false := by simp; omega
        have y3 : ((c : Int) != 95) = false := by simp; omega
        have HN := Lib.hid (all_take hc furtherN hin.out hf)
        clear hc hf hl x2
        go_wp2_with (go_at_call 68; refine (L1.out _).mono ?_; rintro e w2 ⟨rfl, q2⟩)
        go_roundw
        case rel => exact ⟨k + 1, by omega, by omega, by go_num, HN.out, hq.trans q2⟩
        case measure => simp [intOf]; omega
      · have L1 := Lib.hid (fun W => letter_of c false hl W)
        have y3 : ((c : Int) != 95) = true := by simp; omega
        have HV : Hid (rightN (bs s) = false) := Lib.hid (by rw [Hr.out]; exact all_no hc furtherN hf)
        clear hc hf hl x2
        go_wp2_with (go_at_call 68; refine (L1.out _).mono ?_; rintro e w2 ⟨rfl, q2⟩)
        go_ret
        exact ⟨by rw [HV.out]; rfl, hq.trans q2⟩
      · have L1 := Lib.hid (fun W => letter_of c false hl W)
        have y1 : decide ((c : Int) < 48) = false := by simp; omega
        have y3 : ((c : Int) != 95) = true := by simp; omega
        have HV : Hid (rightN (bs s) = false) := Lib.hid (by rw [Hr.out]; exact all_no hc furtherN hf)
        clear hc hf hl x2
        go_wp2_with (go_at_call 68; refine (L1.out _).mono ?_; rintro e w2 ⟨rfl, q2⟩)
        go_ret
        exact ⟨by rw [HV.out]; rfl, hq.trans q2⟩
    · have hdec : decide (k < n) = false := by simp; omega
      have HV : Hid (rightN (bs s) = true) := Lib.hid (by
        have := hin.out
        rw [List.take_of_length_le (by rw [Hln.out]; omega)] at this
        rw [Hr.out]; exact this)
      go_wp2_with fail
      go_ret
      exact ⟨by rw [HV.out]; rfl, hq⟩
end Go.Proofs.YtidkbodmiegbkaaGreatDoor
namespace Go.Proofs.YtidkbodmiegbkaaGreatDoor
set_option linter.unusedSimpArgs false
set_option linter.unusedVariables false
def mayN (t : Tok) : Bool :=
  if t.kind = 1 then decide (0 ≤ t.num) && decide (t.text = [])
  else if t.num ≠ 0 then false
  else if t.kind = 2 then true
  else if t.kind = 3 then rightN t.text && !decide (t.text ∈ wordsL)
  else if t.kind = 4 then decide (t.text ∈ wordsL)
  else if t.kind = 5 then decide (t.text ∈ marksL)
  else false
def shownN (t : Tok) : List Nat := if t.kind = 1 then showN t.num else if t.kind = 2 then quoteN t.text else t.text
/-- the whole text behind what there is -/
def joinAll (o : List Nat) (first : Bool) : List Tok → List Nat
  | [] => o
  | t :: r => joinAll ((if first then o else o ++ [32]) ++ shownN t) false r
def joinN (l : List Tok) : List Nat × Nat := if l.all mayN = true then (if 4096 < (joinAll [] true l).length then ([], 3) else (joinAll [] true l, 0)) else ([], 2)
theorem joinAll_le : ∀ (l : List Tok) (o : List Nat) (b : Bool), o.length ≤ (joinAll o b l).length
  | [], o, b => Nat.le_refl _
  | t :: r, o, b => by
    have := joinAll_le r ((if b then o else o ++ [32]) ++ shownN t) false
    have h2 : o.length ≤ ((if b then o else o ++ [32]) ++ shownN t).length := by cases b <;> simp <;> omega
    unfold joinAll
    omega
theorem quote_len (l : List Nat) : l.length ≤ (l.flatMap formN).length := by
  induction l with
  | nil => simp
  | cons a l ih =>
    have := (form_len a).1
    simp only [List.flatMap_cons, List.length_append, List.length_cons]
    omega
theorem shown_len {t : Tok} (h : mayN t = true) : t.text.length ≤ (shownN t).length := by
  unfold shownN
  split
  · rename_i hk
    unfold mayN at h
    rw [if_pos hk, Bool.and_eq_true, decide_eq_true_eq, decide_eq_true_eq] at h
    rw [h.2]
    simp
  · split
    · unfold quoteN
      have := quote_len t.text
      simp only [List.length_cons, List.length_append, List.length_nil]
      omega
    · exact Nat.le_refl _
theorem joinAll_cons (o : List Nat) (b : Bool) (t : Tok) (r : List Tok) : joinAll o b (t :: r) = joinAll ((if b then o else o ++ [32]) ++ shownN t) false r := rfl
/-- where it is too long already -/
theorem join_long {l : List Tok} {t : Tok} {o : List Nat} {b : Bool} (h : mayN t = true) (hl : 4096 < (if b then o else o ++ [32]).length + t.text.length) : 4096 < (joinAll o b (t :: l)).length := by
  rw [joinAll_cons]
  have h1 := joinAll_le l ((if b then o else o ++ [32]) ++ shownN t) false
  have h2 := shown_len h
  rw [List.length_append] at h1
  omega
end Go.Proofs.YtidkbodmiegbkaaGreatDoor
namespace Go.Proofs.YtidkbodmiegbkaaGreatDoor
set_option linter.unusedSimpArgs false
set_option linter.unusedVariables false
open Go.RowKit
set_option maxRecDepth 100000 in
set_option maxHeartbeats 4000000 in
theorem p_kids (k : Int) (W : World) : Calls Tryz.prog 26 #[.int .i64 k] W fun e w' => e = .returned (.int .i64 (kidsN k)) ∧ w' = W := by
  rcases (show (k < 1) ∨ (1 ≤ k ∧ k ≤ 7) ∨ (8 ≤ k ∧ k ≤ 19) ∨ (20 ≤ k ∧ k ≤ 28) ∨ (k = 29) ∨ (k = 30) ∨ (31 ≤ k ∧ k ≤ 34) ∨ (34 < k) by omega) with h | h | h | h | h | h | h | h
  · have hv : kidsN k = -1 := by unfold kidsN; (repeat' split) <;> omega
    rw [hv]
    have t0 : decide (1 ≤ k) = false := by simp; omega
    have t1 : decide (k ≤ 7) = true := by simp; omega
    have t2 : decide (8 ≤ k) = false := by simp; omega
    have t3 : decide (k ≤ 19) = true := by simp; omega
    have t4 : decide (20 ≤ k) = false := by simp; omega
    have t5 : decide (k ≤ 28) = true := by simp; omega
    have t6 : decide (31 ≤ k) = false := by simp; omega
    have t7 : decide (k ≤ 34) = true := by simp; omega
    have q29 : (k == 29) = false := by simp; omega
    have q30 : (k == 30) = false := by simp; omega
    clear hv h
    go_enter Tryz.func26, Tryz.ntmps26
    go_wp2_with fail
    go_ret
    exact ⟨rfl, rfl⟩
  · have hv : kidsN k = 0 := by unfold kidsN; (repeat' split) <;> omega
    rw [hv]
    have t0 : decide (1 ≤ k) = true := by simp; omega
    have t1 : decide (k ≤ 7) = true := by simp; omega
    have t2 : decide (8 ≤ k) = false := by simp; omega
    have t3 : decide (k ≤ 19) = true := by simp; omega
    have t4 : decide (20 ≤ k) = false := by simp; omega
    have t5 : decide (k ≤ 28) = true := by simp; omega
    have t6 : decide (31 ≤ k) = false := by simp; omega
    have t7 : decide (k ≤ 34) = true := by simp; omega
    have q29 : (k == 29) = false := by simp; omega
    have q30 : (k == 30) = false := by simp; omega
    clear hv h
    go_enter Tryz.func26, Tryz.ntmps26
    go_wp2_with fail
    go_ret
    exact ⟨rfl, rfl⟩
  · have hv : kidsN k = 1 := by unfold kidsN; (repeat' split) <;> omega
    rw [hv]
    have t0 : decide (1 ≤ k) = true := by simp; omega
    have t1 : decide (k ≤ 7) = false := by simp; omega
    have t2 : decide (8 ≤ k) = true := by simp; omega
    have t3 : decide (k ≤ 19) = true := by simp; omega
    have t4 : decide (20 ≤ k) = false := by simp; omega
    have t5 : decide (k ≤ 28) = true := by simp; omega
    have t6 : decide (31 ≤ k) = false := by simp; omega
    have t7 : decide (k ≤ 34) = true := by simp; omega
    have q29 : (k == 29) = false := by simp; omega
    have q30 : (k == 30) = false := by simp; omega
    clear hv h
    go_enter Tryz.func26, Tryz.ntmps26
    go_wp2_with fail
    go_ret
    exact ⟨rfl, rfl⟩
  · have hv : kidsN k = 2 := by unfold kidsN; (repeat' split) <;> omega
    rw [hv]
    have t0 : decide (1 ≤ k) = true := by simp; omega
    have t1 : decide (k ≤ 7) = false := by simp; omega
    have t2 : decide (8 ≤ k) = true := by simp; omega
    have t3 : decide (k ≤ 19) = false := by simp; omega
    have t4 : decide (20 ≤ k) = true := by simp; omega
    have t5 : decide (k ≤ 28) = true := by simp; omega
    have t6 : decide (31 ≤ k) = false := by simp; omega
    have t7 : decide (k ≤ 34) = true := by simp; omega
    have q29 : (k == 29) = false := by simp; omega
    have q30 : (k == 30) = false := by simp; omega
    clear hv h
    go_enter Tryz.func26, Tryz.ntmps26
    go_wp2_with fail
    go_ret
    exact ⟨rfl, rfl⟩
  · have hv : kidsN k = 1 := by unfold kidsN; subst h; decide
    rw [hv]
    subst h

    clear hv
    go_enter Tryz.func26, Tryz.ntmps26
    go_wp2_with fail
    go_ret
    exact ⟨rfl, rfl⟩
  · have hv : kidsN k = 3 := by unfold kidsN; subst h; decide
    rw [hv]
    subst h

    clear hv
    go_enter Tryz.func26, Tryz.ntmps26
    go_wp2_with fail
    go_ret
    exact ⟨rfl, rfl⟩
  · have hv : kidsN k = 2 := by unfold kidsN; (repeat' split) <;> omega
    rw [hv]
    have t0 : decide (1 ≤ k) = true := by simp; omega
    have t1 : decide (k ≤ 7) = false := by simp; omega
    have t2 : decide (8 ≤ k) = true := by simp; omega
    have t3 : decide (k ≤ 19) = false := by simp; omega
    have t4 : decide (20 ≤ k) = true := by simp; omega
    have t5 : decide (k ≤ 28) = false := by simp; omega
    have t6 : decide (31 ≤ k) = true := by simp; omega
    have t7 : decide (k ≤ 34) = true := by simp; omega
    have q29 : (k == 29) = false := by simp; omega
    have q30 : (k == 30) = false := by simp; omega
    clear hv h
    go_enter Tryz.func26, Tryz.ntmps26
    go_wp2_with fail
    go_ret
    exact ⟨rfl, rfl⟩
  · have hv : kidsN k = -1 := by unfold kidsN; (repeat' split) <;> omega
    rw [hv]
    have t0 : decide (1 ≤ k) = true := by simp; omega
    have t1 : decide (k ≤ 7) = false := by simp; omega
    have t2 : decide (8 ≤ k) = true := by simp; omega
    have t3 : decide (k ≤ 19) = false := by simp; omega
    have t4 : decide (20 ≤ k) = true := by simp; omega
    have t5 : decide (k ≤ 28) = false := by simp; omega
    have t6 : decide (31 ≤ k) = true := by simp; omega
    have t7 : decide (k ≤ 34) = false := by simp; omega
    have q29 : (k == 29) = false := by simp; omega
    have q30 : (k == 30) = false := by simp; omega
    clear hv h
    go_enter Tryz.func26, Tryz.ntmps26
    go_wp2_with fail
    go_ret
    exact ⟨rfl, rfl⟩
set_option maxRecDepth 100000 in
set_option maxHeartbeats 4000000 in
theorem p_named (k : Int) (W : World) : Calls Tryz.prog 27 #[.int .i64 k] W fun e w' => e = .returned (.bool (decide (k ∈ namedL))) ∧ w' = W := by
  by_cases h : k ∈ namedL
  · rw [decide_eq_true h]
    simp only [namedL, List.mem_cons, List.not_mem_nil, or_false] at h
    rcases h with rfl | rfl | rfl | rfl | rfl | rfl | rfl | rfl | rfl | rfl
    · go_enter Tryz.func27, Tryz.ntmps27
      go_wp2_with fail
      go_ret
      exact ⟨rfl, rfl⟩
    · go_enter Tryz.func27, Tryz.ntmps27
      go_wp2_with fail
      go_ret
      exact ⟨rfl, rfl⟩
    · go_enter Tryz.func27, Tryz.ntmps27
      go_wp2_with fail
      go_ret
      exact ⟨rfl, rfl⟩
    · go_enter Tryz.func27, Tryz.ntmps27
      go_wp2_with fail
      go_ret
      exact ⟨rfl, rfl⟩
    · go_enter Tryz.func27, Tryz.ntmps27
      go_wp2_with fail
      go_ret
      exact ⟨rfl, rfl⟩
    · go_enter Tryz.func27, Tryz.ntmps27
      go_wp2_with fail
      go_ret
      exact ⟨rfl, rfl⟩
    · go_enter Tryz.func27, Tryz.ntmps27
      go_wp2_with fail
      go_ret
      exact ⟨rfl, rfl⟩
    · go_enter Tryz.func27, Tryz.ntmps27
      go_wp2_with fail
      go_ret
      exact ⟨rfl, rfl⟩
    · go_enter Tryz.func27, Tryz.ntmps27
      go_wp2_with fail
      go_ret
      exact ⟨rfl, rfl⟩
    · go_enter Tryz.func27, Tryz.ntmps27
      go_wp2_with fail
      go_ret
      exact ⟨rfl, rfl⟩
  · rw [decide_eq_false h]
    simp only [namedL, List.mem_cons, List.not_mem_nil, or_false, not_or] at h
    obtain ⟨h7, h8, h9, h10, h12, h13, h31, h32, h33, h34⟩ := h
    have q7 : (k == 7) = false := by simpa using h7
    have q8 : (k == 8) = false := by simpa using h8
    have q9 : (k == 9) = false := by simpa using h9
    have q10 : (k == 10) = false := by simpa using h10
    have q12 : (k == 12) = false := by simpa using h12
    have q13 : (k == 13) = false := by simpa using h13
    have q31 : (k == 31) = false := by simpa using h31
    have q32 : (k == 32) = false := by simpa using h32
    have q33 : (k == 33) = false := by simpa using h33
    have q34 : (k == 34) = false := by simpa using h34
    clear h7 h8 h9 h10 h12 h13 h31 h32 h33 h34
    go_enter Tryz.func27, Tryz.ntmps27
    go_wp2_with fail
    go_ret
    exact ⟨rfl, rfl⟩
end Go.Proofs.YtidkbodmiegbkaaGreatDoor
namespace Go.Proofs.YtidkbodmiegbkaaGreatDoor
set_option linter.unusedSimpArgs false
set_option linter.unusedVariables false
open Go.RowKit
theorem txt_empty {s : List Nat} (hb : Bytes s) (h : ¬ s = []) : ¬ (txt s).toList = [] := fun e => h (by
  have := (toList_inj (txt s) (txt [])).1 (e.trans (by rw [ByteArray.toList_eq]; rfl))
  rw [← bs_txt hb, this]
  rfl)
theorem nil_facts : (txt []).toList = [] := by rw [ByteArray.toList_eq]; rfl
theorem Quiet.cells {w w' : World} (h : Quiet w w') : ∀ p, w'.cell? p = w.cell? p := by
  obtain ⟨n, rfl⟩ := h
  exact fun _ => rfl
/-- the marks among which a text is sought -/
theorem marks_contains (m : List Nat) (hm : Bytes m) (b : Bool) (hb : decide (m ∈ marksL) = b) (w : World) (h : Marks w) : Calls Tryz.prog 80 #[.slice (some ⟨1, 0, none⟩) 16 16, .string (txt m)] w fun e w' => e = .returned (.bool b) ∧ w' = w := by
  have hz : ∀ j, j < (marksL.map txt).length → w.cell? ⟨1, 0 + j, none⟩ = some (.string ((marksL.map txt).getD j ByteArray.empty)) := fun j hj => by
    have hj' : j < marksL.length := by simpa using hj
    obtain ⟨t, fr, hg⟩ := marks_block h
    have hc : marksV[j]? = some (.string (txt marksL[j])) := by
      unfold marksV
      rw [List.getElem?_toArray, List.getElem?_map, List.getElem?_eq_getElem hj']
      rfl
    rw [Nat.zero_add]
    simp only [World.cell?, hg, hc]
    rw [List.getD_eq_getElem?_getD, List.getElem?_map, List.getElem?_eq_getElem hj']
    rfl
  have := Go.Proofs.Tryz.slices_Contains_string 1 0 16 16 (marksL.map txt) (txt m) w (by decide) (by omega) hz
  have e : Lib.containsS ((marksL.map txt).take 16) (txt m) = b := by
    rw [← hb, Bool.eq_iff_iff, decide_eq_true_eq]
    rw [List.take_of_length_le (by decide), Lib.containsS_iff]
    constructor
    · intro h
      obtain ⟨m', hm', e⟩ := List.mem_map.1 h
      have e2 : bs (txt m') = bs (txt m) := by rw [e]
      have hb' : Bytes m' := by
        have : ∀ m ∈ marksL, ∀ n ∈ m, n < 256 := by decide
        exact this m' hm'
      rw [bs_txt hb', bs_txt hm] at e2
      rw [← e2]
      exact hm'
    · intro h
      exact List.mem_map.2 ⟨m, h, rfl⟩
  rw [e] at this
  exact this
set_option maxRecDepth 100000 in
set_option maxHeartbeats 4000000 in
theorem may_any (t : Tok) (ht : t.ok) (w : World) (hm : Marks w) : Calls Tryz.prog 62 #[.agg t.cells.toArray] w fun e w' => e = .returned (.bool (mayN t)) ∧ Below w.heap.size w w' := by
  obtain ⟨k, s, v, p⟩ := t
  obtain ⟨hby, hsl, hk, hv, hp⟩ := ht
  dsimp only at hby hsl hk hv hp
  show Calls Tryz.prog 62 #[.agg #[.int .i64 k, .string (txt s), .int .i64 v, .int .i64 p]] w _
  by_cases k1 : k = 1
  · subst k1
    by_cases v0 : 0 ≤ v
    · by_cases s0 : s = []
      · subst s0
        have n0 := nil_facts
        have n1 : (txt []).toList.isEmpty = true := by rw [n0]; rfl
        have hV : mayN ⟨1, [], v, p⟩ = true := by simp [mayN, *]
        rw [hV]
        clear hV hby hsl hk hv hp hm
        go_enter Tryz.func62, Tryz.ntmps62
        go_wp2_with fail
        go_ret
        exact ⟨rfl, (Below.refl _ _).alloc (Nat.le_refl _) _⟩
      · have n0 := txt_empty hby s0
        have n1 : (txt s).toList.isEmpty = false := by simpa using n0
        have n2 : ((txt s).toList == []) = false := by simpa using n0
        have hV : mayN ⟨1, s, v, p⟩ = false := by simp [mayN, *]
        rw [hV]
        clear hV hby hsl hk hv hp hm s0
        go_enter Tryz.func62, Tryz.ntmps62
        go_wp2_with fail
        go_ret
        exact ⟨rfl, (Below.refl _ _).alloc (Nat.le_refl _) _⟩
    · have d0 : decide (0 ≤ v) = false := decide_eq_false v0
      have hV : mayN ⟨1, s, v, p⟩ = false := by simp [mayN, *]
      rw [hV]
      clear hV hby hsl hk hv hp hm
      go_enter Tryz.func62, Tryz.ntmps62
      go_wp2_with fail
      go_ret
      exact ⟨rfl, (Below.refl _ _).alloc (Nat.le_refl _) _⟩
  have e1 : (k == 1) = false := by simpa using k1
  by_cases v0 : v = 0
  rotate_left
  · have d0 : (v != 0) = true := by simpa using v0
    have hV : mayN ⟨k, s, v, p⟩ = false := by simp [mayN, *]
    rw [hV]
    clear hV hby hsl hk hv hp hm
    go_enter Tryz.func62, Tryz.ntmps62
    go_wp2_with fail
    go_ret
    exact ⟨rfl, (Below.refl _ _).alloc (Nat.le_refl _) _⟩
  subst v0
  by_cases k2 : k = 2
  · subst k2
    have hV : mayN ⟨2, s, 0, p⟩ = true := by simp [mayN, *]
    rw [hV]
    clear hV hby hsl hk hv hp hm
    go_enter Tryz.func62, Tryz.ntmps62
    go_wp2_with fail
    go_ret
    exact ⟨rfl, (Below.refl _ _).alloc (Nat.le_refl _) _⟩
  have e2 : (k == 2) = false := by simpa using k2
  by_cases k3 : k = 3
  · subst k3
    cases hr : rightN s with
    | false =>
      have RT : Hid (∀ W, Calls Tryz.prog 40 #[.string (txt s)] W fun e w' => e = .returned (.bool false) ∧ Quiet W w') := Lib.hid (fun W => by
        have := right_any (txt s) (by rw [txt_size]; exact hsl) W
        rw [bs_txt hby, hr] at this
        exact this)
      have hV : mayN ⟨3, s, 0, p⟩ = false := by simp [mayN, *]
      rw [hV]
      clear hV hby hsl hk hv hp hm hr
      go_enter Tryz.func62, Tryz.ntmps62
      go_wp2_with (first
        | (go_at_call 40
           refine (RT.out _).mono ?_
           rintro e w1 ⟨rfl, q1⟩
           have C1 := q1.cells ⟨w.heap.size, 1, none⟩
           simp at C1
           have B1 := Lib.hid (((Below.refl w.heap.size w).alloc (Nat.le_refl _) _).trans (q1.below _))
           clear q1))
      go_ret
      exact ⟨rfl, B1.out⟩
    | true =>
      have RT : Hid (∀ W, Calls Tryz.prog 40 #[.string (txt s)] W fun e w' => e = .returned (.bool true) ∧ Quiet W w') := Lib.hid (fun W => by
        have := right_any (txt s) (by rw [txt_size]; exact hsl) W
        rw [bs_txt hby, hr] at this
        exact this)
      by_cases hw : s ∈ wordsL
      · have RV : Hid (∀ W, Calls Tryz.prog 58 #[.string (txt s)] W fun e w' => e = .returned (.bool true) ∧ Quiet W w') := Lib.hid (fun W => by
          have := lex_reserved_any (txt s) W
          rw [bs_txt hby, decide_eq_true hw] at this
          exact this)
        have hV : mayN ⟨3, s, 0, p⟩ = false := by simp [mayN, *]
        rw [hV]
        clear hV hby hsl hk hv hp hm hr hw
        go_enter Tryz.func62, Tryz.ntmps62
        go_wp2_with (first
        | (go_at_call 40
           refine (RT.out _).mono ?_
           rintro e w1 ⟨rfl, q1⟩
           have C1 := q1.cells ⟨w.heap.size, 1, none⟩
           simp at C1
           have B1 := Lib.hid (((Below.refl w.heap.size w).alloc (Nat.le_refl _) _).trans (q1.below _))
           clear q1)
        | (go_at_call 58
           refine (RV.out _).mono ?_
           rintro e w2 ⟨rfl, q2⟩
           have B2 := Lib.hid (B1.out.trans (q2.below _))
           clear q2))
        go_ret
        exact ⟨rfl, B2.out⟩
      · have RV : Hid (∀ W, Calls Tryz.prog 58 #[.string (txt s)] W fun e w' => e = .returned (.bool false) ∧ Quiet W w') := Lib.hid (fun W => by
          have := lex_reserved_any (txt s) W
          rw [bs_txt hby, decide_eq_false hw] at this
          exact this)
        have hV : mayN ⟨3, s, 0, p⟩ = true := by simp [mayN, *]
        rw [hV]
        clear hV hby hsl hk hv hp hm hr hw
        go_enter Tryz.func62, Tryz.ntmps62
        go_wp2_with (first
        | (go_at_call 40
           refine (RT.out _).mono ?_
           rintro e w1 ⟨rfl, q1⟩
           have C1 := q1.cells ⟨w.heap.size, 1, none⟩
           simp at C1
           have B1 := Lib.hid (((Below.refl w.heap.size w).alloc (Nat.le_refl _) _).trans (q1.below _))
           clear q1)
        | (go_at_call 58
           refine (RV.out _).mono ?_
           rintro e w2 ⟨rfl, q2⟩
           have B2 := Lib.hid (B1.out.trans (q2.below _))
           clear q2))
        go_ret
        exact ⟨rfl, B2.out⟩
  have e3 : (k == 3) = false := by simpa using k3
  by_cases k4 : k = 4
  · subst k4
    by_cases hw : s ∈ wordsL
    · have RV : Hid (∀ W, Calls Tryz.prog 58 #[.string (txt s)] W fun e w' => e = .returned (.bool true) ∧ Quiet W w') := Lib.hid (fun W => by
        have := lex_reserved_any (txt s) W
        rw [bs_txt hby, decide_eq_true hw] at this
        exact this)
      have hV : mayN ⟨4, s, 0, p⟩ = true := by simp [mayN, *]
      rw [hV]
      clear hV hby hsl hk hv hp hm hw
      go_enter Tryz.func62, Tryz.ntmps62
      go_wp2_with (first
        | (go_at_call 58
           refine (RV.out _).mono ?_
           rintro e w2 ⟨rfl, q2⟩
           have B2 := Lib.hid (((Below.refl w.heap.size w).alloc (Nat.le_refl _) _).trans (q2.below _))
           clear q2))
      go_ret
      exact ⟨rfl, B2.out⟩
    · have RV : Hid (∀ W, Calls Tryz.prog 58 #[.string (txt s)] W fun e w' => e = .returned (.bool false) ∧ Quiet W w') := Lib.hid (fun W => by
        have := lex_reserved_any (txt s) W
        rw [bs_txt hby, decide_eq_false hw] at this
        exact this)
      have hV : mayN ⟨4, s, 0, p⟩ = false := by simp [mayN, *]
      rw [hV]
      clear hV hby hsl hk hv hp hm hw
      go_enter Tryz.func62, Tryz.ntmps62
      go_wp2_with (first
        | (go_at_call 58
           refine (RV.out _).mono ?_
           rintro e w2 ⟨rfl, q2⟩
           have B2 := Lib.hid (((Below.refl w.heap.size w).alloc (Nat.le_refl _) _).trans (q2.below _))
           clear q2))
      go_ret
      exact ⟨rfl, B2.out⟩
  have e4 : (k == 4) = false := by simpa using k4
  by_cases k5 : k = 5
  · subst k5
    have hM : Marks (w.alloc (.cells #[.int .i64 5, .string (txt s), .int .i64 0, .int .i64 p] 82)) := hm.below ((Below.refl _ _).alloc (Nat.le_refl _) _)
    by_cases hw : s ∈ marksL
    · have MC : Hid (∀ W, Marks W → Calls Tryz.prog 80 #[.slice (some ⟨1, 0, none⟩) 16 16, .string (txt s)] W fun e w' => e = .returned (.bool true) ∧ w' = W) := Lib.hid (fun W hW => marks_contains s hby true (decide_eq_true hw) W hW)
      have HM := Lib.hid hM
      have hV : mayN ⟨5, s, 0, p⟩ = true := by simp [mayN, *]
      rw [hV]
      clear hV hby hsl hk hv hp hm hw hM
      go_enter Tryz.func62, Tryz.ntmps62
      go_wp2_with fail
      go_quiet ((go_at_call 80; exact Calls.quiet_of_same (MC.out _ (HM.out.drewN _))))
      go_wp2_with fail
      go_ret
      exact ⟨rfl, below_drewN ((Below.refl _ _).alloc (Nat.le_refl _) _) _⟩
    · have MC : Hid (∀ W, Marks W → Calls Tryz.prog 80 #[.slice (some ⟨1, 0, none⟩) 16 16, .string (txt s)] W fun e w' => e = .returned (.bool false) ∧ w' = W) := Lib.hid (fun W hW => marks_contains s hby false (decide_eq_false hw) W hW)
      have HM := Lib.hid hM
      have hV : mayN ⟨5, s, 0, p⟩ = false := by simp [mayN, *]
      rw [hV]
      clear hV hby hsl hk hv hp hm hw hM
      go_enter Tryz.func62, Tryz.ntmps62
      go_wp2_with fail
      go_quiet ((go_at_call 80; exact Calls.quiet_of_same (MC.out _ (HM.out.drewN _))))
      go_wp2_with fail
      go_ret
      exact ⟨rfl, below_drewN ((Below.refl _ _).alloc (Nat.le_refl _) _) _⟩
  have e5 : (k == 5) = false := by simpa using k5
  have hV : mayN ⟨k, s, 0, p⟩ = false := by simp [mayN, *]
  rw [hV]
  clear hV hby hsl hk hv hp hm
  go_enter Tryz.func62, Tryz.ntmps62
  go_wp2_with fail
  go_ret
  exact ⟨rfl, (Below.refl _ _).alloc (Nat.le_refl _) _⟩
set_option maxRecDepth 100000 in
set_option maxHeartbeats 4000000 in
theorem lshown_any (t : Tok) (ht : t.ok) (hl : t.text.length ≤ 4096) (w : World) (hm : Pow w) : Calls Tryz.prog 66 #[.agg t.cells.toArray] w fun e w' => e = .returned (.string (txt (shownN t))) ∧ Below w.heap.size w w' := by
  obtain ⟨k, s, v, p⟩ := t
  obtain ⟨hby, hsl, hk, hv, hp⟩ := ht
  dsimp only at hby hsl hk hv hp hl
  have hv' := hv
  simp [Lit.wf, IntKind.min, IntKind.max, IntKind.signed, IntKind.bits] at hv'
  obtain ⟨v1, v2⟩ := hv'
  show Calls Tryz.prog 66 #[.agg #[.int .i64 k, .string (txt s), .int .i64 v, .int .i64 p]] w _
  by_cases k1 : k = 1
  · subst k1
    have SH : Hid (∀ W, Below w.heap.size w W → Calls Tryz.prog 82 #[.int .i64 v] W fun e w' => e = .returned (.string (txt (showN v))) ∧ Below W.heap.size W w') := Lib.hid (fun W hW => show_any v v1 v2 W (hm.below hW))
    show Calls Tryz.prog 66 #[.agg #[.int .i64 1, .string (txt s), .int .i64 v, .int .i64 p]] w fun e w' => e = .returned (.string (txt (showN v))) ∧ Below w.heap.size w w'
    clear hby hsl hk hv hp hm hl
    go_enter Tryz.func66, Tryz.ntmps66
    go_wp2_with (first
        | (go_at_call 82
           refine (SH.out _ ((Below.refl _ _).alloc (Nat.le_refl _) _)).mono ?_
           rintro e w1 ⟨rfl, b1⟩
           have B1 := Lib.hid (((Below.refl w.heap.size w).alloc (Nat.le_refl _) _).trans (b1.mono (by simp)))
           clear b1))
    go_ret
    exact ⟨rfl, B1.out⟩
  have e1 : (k == 1) = false := by simpa using k1
  by_cases k2 : k = 2
  · subst k2
    have QU : Hid (∀ W, Calls Tryz.prog 83 #[.string (txt s)] W fun e w' => e = .returned (.string (txt (quoteN s))) ∧ Below W.heap.size W w') := Lib.hid (fun W => by
      have := quote_any (txt s) (by rw [txt_size]; omega) W
      rw [bs_txt hby] at this
      exact this)
    show Calls Tryz.prog 66 #[.agg #[.int .i64 2, .string (txt s), .int .i64 v, .int .i64 p]] w fun e w' => e = .returned (.string (txt (quoteN s))) ∧ Below w.heap.size w w'
    clear hby hsl hk hv hp hm hl
    go_enter Tryz.func66, Tryz.ntmps66
    go_wp2_with (first
        | (go_at_call 83
           refine (QU.out _).mono ?_
           rintro e w1 ⟨rfl, b1⟩
           have B1 := Lib.hid (((Below.refl w.heap.size w).alloc (Nat.le_refl _) _).trans (b1.mono (by simp)))
           clear b1))
    go_ret
    exact ⟨rfl, B1.out⟩
  have e2 : (k == 2) = false := by simpa using k2
  have hV : shownN ⟨k, s, v, p⟩ = s := by simp [shownN, k1, k2]
  rw [hV]
  clear hV hby hsl hk hv hp hm hl
  go_enter Tryz.func66, Tryz.ntmps66
  go_wp2_with fail
  go_ret
  exact ⟨rfl, (Below.refl _ _).alloc (Nat.le_refl _) _⟩
end Go.Proofs.YtidkbodmiegbkaaGreatDoor
namespace Go.Proofs.YtidkbodmiegbkaaGreatDoor
set_option linter.unusedSimpArgs false
set_option linter.unusedVariables false
open Go.RowKit
theorem BuiltSt.drewN {w : World} {B b : Nat} {l : List Nat} (h : BuiltSt w B b l) (n : Nat) : BuiltSt (w.drewN n) B b l := h
theorem join_end {o J : List Nat} {l : List Tok} {k : Nat} (h : joinAll o (decide (k = 0)) (l.drop k) = J) (hk : l.length ≤ k) : o = J := by
  rw [List.drop_of_length_le hk] at h
  exact h
theorem join_step {o J : List Nat} {l : List Tok} {k : Nat} {t : Tok} (h : joinAll o (decide (k = 0)) (l.drop k) = J) (hk : l[k]? = some t) : joinAll ((if k = 0 then o else o ++ [32]) ++ shownN t) (decide (k + 1 = 0)) (l.drop (k + 1)) = J := by
  have hl := (List.getElem?_eq_some_iff.1 hk).1
  rw [List.drop_eq_getElem_cons hl, (List.getElem?_eq_some_iff.1 hk).2, joinAll_cons] at h
  rw [show decide (k + 1 = 0) = false from rfl, ← h]
  simp
theorem join_far {o J : List Nat} {l : List Tok} {k : Nat} {t : Tok} (h : joinAll o (decide (k = 0)) (l.drop k) = J) (hk : l[k]? = some t) (hm : mayN t = true) (hl : 4096 < (if k = 0 then o else o ++ [32]).length + t.text.length) : 4096 < J.length := by
  have hkl := (List.getElem?_eq_some_iff.1 hk).1
  rw [List.drop_eq_getElem_cons hkl, (List.getElem?_eq_some_iff.1 hk).2] at h
  rw [← h]
  refine join_long hm ?_
  simpa using hl
theorem joinN_no {l : List Tok} {k : Nat} {t : Tok} (hk : l[k]? = some t) (h : mayN t = false) : joinN l = ([], 2) := by
  unfold joinN
  rw [if_neg]
  intro ha
  have := List.all_eq_true.1 ha t (List.mem_iff_getElem?.2 ⟨k, hk⟩)
  rw [h] at this
  cases this
theorem all_may {l : List Tok} (h : ∀ i t, i < l.length → l[i]? = some t → mayN t = true) : l.all mayN = true := by
  rw [List.all_eq_true]
  intro t ht
  obtain ⟨i, hi⟩ := List.mem_iff_getElem?.1 ht
  exact h i t (List.getElem?_eq_some_iff.1 hi).1 hi
theorem joinN_long {l : List Tok} (ha : l.all mayN = true) (h : 4096 < (joinAll [] true l).length) : joinN l = ([], 3) := by
  unfold joinN
  rw [if_pos ha, if_pos h]
theorem joinN_yes {l : List Tok} (ha : l.all mayN = true) (h : ¬ 4096 < (joinAll [] true l).length) : joinN l = (joinAll [] true l, 0) := by
  unfold joinN
  rw [if_pos ha, if_neg h]
theorem showN_len {v : Int} (h1 : -9223372036854775808 ≤ v) (h2 : v ≤ 9223372036854775807) : (showN v).length ≤ 20 := (intN_some (intN_show h1 h2)).2.2.2
theorem shown_bound {t : Tok} (ht : t.ok) (h : t.text.length ≤ 4096) : (shownN t).length ≤ 16500 ∧ Bytes (shownN t) := by
  obtain ⟨hb, _, _, hv, _⟩ := ht
  unfold shownN
  split
  · have hv' := hv
    simp [Lit.wf, IntKind.min, IntKind.max, IntKind.signed, IntKind.bits] at hv'
    refine ⟨by have := showN_len hv'.1 hv'.2; omega, ?_⟩
    intro n hn
    unfold showN at hn
    split at hn
    · rcases List.mem_cons.1 hn with rfl | hn
      · omega
      · have := dec_digits _ n hn; omega
    · have := dec_digits _ n hn; omega
  · split
    · refine ⟨?_, quote_bytes hb⟩
      unfold quoteN
      have := flat_len t.text
      simp only [List.length_cons, List.length_append, List.length_nil]
      omega
    · exact ⟨by omega, hb⟩
set_option maxRecDepth 100000 in
set_option maxHeartbeats 8000000 in
theorem join_any {l : List Tok} {v : Value} (w w0 : World) (hs : SlR w0 w0.heap.size 4 Tok.Is v l) (hw : Below w0.heap.size w0 w) (hbig : ∀ t ∈ l, t.text.length ≤ 281474976710656) (hm : Marks w) (hp : Pow w) :
    Calls Tryz.prog 39 #[v] w fun e w' => e = .returned (.tuple #[.string (txt (joinN l).1), .int .i64 ((joinN l).2 : Int)]) ∧ Below w.heap.size w w' := by
  obtain ⟨a, c, rfl⟩ : ∃ a c, v = .slice a l.length c := by obtain ⟨a, c, h, _⟩ := hs.form; exact ⟨a, c, h⟩
  have hn : l.length ≤ 9223372036854775807 := by have := hs.caps; unfold maxLen at this; omega
  obtain ⟨R, hR⟩ : ∃ R, joinN l = R := ⟨_, rfl⟩
  rw [hR]
  obtain ⟨n, hlen⟩ : ∃ n, l.length = n := ⟨_, rfl⟩
  rw [hlen] at hs hn ⊢
  have Hlen := Lib.hid hlen
  have HR := Lib.hid hR
  have Hs := Lib.hid hs
  have Hw := Lib.hid hw
  have Hbig := Lib.hid hbig
  have Hwz := hw.size
  have Hm := Lib.hid hm
  have Hp := Lib.hid hp
  clear hs hlen hw hR hbig hm hp
  go_enter Tryz.func39, Tryz.ntmps39
  go_wp2_with fail
  go_loopw [11] (fun i wr => ∃ k : Nat, k ≤ n ∧ i = .int .i64 (k : Int) ∧ Hid (∀ i t, i < k → l[i]? = some t → mayN t = true) ∧ Hid (Below w.heap.size w wr)) (fun i _ => n - (intOf i).toNat)
  case atStart => exact ⟨0, Nat.zero_le _, rfl, fun i t h => by omega, Below.refl _ _⟩
  case round =>
    obtain ⟨k, hk, rfl, hall, hb⟩ := hrel
    have b1 : (0 : Int) ≤ (k : Int) := Int.natCast_nonneg _
    have hbz := hb.out.size
    by_cases hlt : k < n
    · have d1 : decide ((k : Int) < (n : Int)) = true := by simp; omega
      obtain ⟨y, hd⟩ := get_some Hlen.out hlt
      have hw1 := Hw.out.trans (hb.out.mono Hw.out.size)
      obtain ⟨b, off, x, rfl, hbB, hxl, ⟨rfl, hok⟩, hx⟩ := (Hs.out.below hw1).at_ hd
      have h0 := hx 0 _ rfl
      have h1 := hx 1 _ rfl
      have h2 := hx 2 _ rfl
      have h3 := hx 3 _ rfl
      simp only [Nat.add_zero] at h0
      have Hd := Lib.hid hd
      have Hok := Lib.hid hok
      have MA : Hid (∀ W, Below w.heap.size w W → Calls Tryz.prog 62 #[.agg #[.int .i64 y.kind, .string (txt y.text), .int .i64 y.num, .int .i64 y.place]] W fun e w' => e = .returned (.bool (mayN y)) ∧ Below W.heap.size W w') := Lib.hid (fun W hW => may_any y hok W (Hm.out.below hW))
      clear hd hx hxl hw1 hok
      cases hmay : mayN y with
      | false =>
        have hv := joinN_no Hd.out hmay
        rw [HR.out] at hv
        have HV := Lib.hid hv
        rw [hmay] at MA
        clear hv hmay
        go_wp2_with (first
          | (go_at_call 62
             refine (MA.out _ (by exact hb.out.alloc hbz _)).mono ?_
             rintro e w1 ⟨rfl, b1'⟩
             have B1 : Hid (Below w.heap.size w w1) := Lib.hid ((hb.out.alloc hbz _).trans (b1'.mono (by simp; omega)))
             clear b1'))
        (try simp only [Exit.inBlock, Exit.then, Exit.noGoto_ret])
        go_ret2
        exact ⟨by rw [HV.out]; rfl, B1.out⟩
      | true =>
        have hnew := so_far1 Hd.out hmay hall.out
        have HN := Lib.hid hnew
        rw [hmay] at MA
        clear hnew hmay hall
        go_wp2_with (first
          | (go_at_call 62
             refine (MA.out _ (by exact hb.out.alloc hbz _)).mono ?_
             rintro e w1 ⟨rfl, b1'⟩
             have B1 : Hid (Below w.heap.size w w1) := Lib.hid ((hb.out.alloc hbz _).trans (b1'.mono (by simp; omega)))
             clear b1'))
        go_roundw
        case rel => exact ⟨k + 1, by omega, by go_num, HN.out, B1.out⟩
        case measure => simp [intOf]; omega
    · have hkn : k = n := by omega
      have hdec : decide (k < n) = false := by simp; omega
      have hdec2 : decide ((k : Int) < (n : Int)) = false := by simp; omega
      have ha : l.all mayN = true := all_may (fun i t hi ht => hall.out i t (by have := Hlen.out; omega) ht)
      obtain ⟨J, hJ⟩ : ∃ J, joinAll [] true l = J := ⟨_, rfl⟩
      have hlong := fun h => joinN_long (l := l) ha h
      have hyes := fun h => joinN_yes (l := l) ha h
      rw [hJ, HR.out] at hlong hyes
      have hall2 : ∀ i t, l[i]? = some t → mayN t = true := fun i t ht => hall.out i t (by have := (List.getElem?_eq_some_iff.1 ht).1; have := Hlen.out; omega) ht
      have HJ := Lib.hid (And.intro hlong (And.intro hyes (And.intro hJ hall2)))
      clear hlong hyes hJ hall hall2 hkn ha
      obtain ⟨wo, hwo⟩ : ∃ wo, wo = wr := ⟨wr, rfl⟩
      subst hwo
      go_wp2_with fail
      go_loopw [21] (fun i wr => ∃ (k : Nat) (o : List Nat), k ≤ n ∧ i = .int .i64 (k : Int) ∧ o.length ≤ 30000 ∧ Hid (joinAll o (decide (k = 0)) (l.drop k) = J) ∧ Hid (BuiltSt wr wo.heap.size wo.heap.size o ∧ Below w.heap.size w wr) ∧ wo.heap.size < wr.heap.size) (fun i _ => n - (intOf i).toNat)
      case atStart => exact ⟨0, [], Nat.zero_le _, rfl, by simp, HJ.out.2.2.1, ⟨BuiltSt.new wo, hb.out.alloc hbz _⟩, by simp⟩
      case round =>
        clear hlt hdec hdec2 hk b1
        obtain ⟨k, o, hk, rfl, ho, hj, hB, hwz⟩ := hrel
        have b1 : (0 : Int) ≤ (k : Int) := Int.natCast_nonneg _
        have hbz2 := hB.out.2.size
        by_cases hlt : k < n
        · have d1 : decide ((k : Int) < (n : Int)) = true := by simp; omega
          have hb2 := Lib.hid hB.out.2
          obtain ⟨y, hd⟩ := get_some Hlen.out hlt
          have hw1 := Hw.out.trans (hB.out.2.mono Hw.out.size)
          obtain ⟨b, off, x, rfl, hbB, hxl, ⟨rfl, hok⟩, hx⟩ := (Hs.out.below hw1).at_ hd
          have h0 := hx 0 _ rfl
          have h1 := hx 1 _ rfl
          have h2 := hx 2 _ rfl
          have h3 := hx 3 _ rfl
          simp only [Nat.add_zero] at h0
          have Hd := Lib.hid hd
          have Hok := Lib.hid hok
          have hmay := HJ.out.2.2.2 k y hd
          obtain ⟨o', ho'⟩ : ∃ o', (if k = 0 then o else o ++ [32]) = o' := ⟨_, rfl⟩
          have hol : o'.length ≤ 30001 := by rw [← ho']; split; omega; rw [List.length_append]; simp; omega
          have hsz : ((txt y.text).size : Int) = (y.text.length : Int) := by rw [txt_size]
          have hstep := join_step hj.out hd
          have hfar := join_far hj.out hd hmay
          rw [ho'] at hstep hfar
          have H3 := Lib.hid (And.intro hstep hfar)
          have hyz : y.text.length ≤ 281474976710656 := Hbig.out y (List.mem_iff_getElem?.2 ⟨k, hd⟩)
          clear hstep hfar hd hx hxl hw1 hok hmay hj
          have hk0 : k = 0 ∨ 0 < k := by omega
          rcases hk0 with rfl | hk0
          · rw [if_pos rfl] at ho'
            subst ho'
            simp only [Nat.zero_mul, Nat.add_zero] at h0 h1 h2 h3
            have hol' : (o.length : Int) ≤ 30001 := by omega
            have hyz' : (y.text.length : Int) ≤ 281474976710656 := by omega
            have hnn : (0 : Int) ≤ (o.length : Int) := Int.natCast_nonneg _
            have hnn2 : (0 : Int) ≤ (y.text.length : Int) := Int.natCast_nonneg _
            by_cases hlong : 4096 < o.length + y.text.length
            · have dl : decide (4096 < (o.length : Int) + (y.text.length : Int)) = true := by simp only [decide_eq_true_eq]; omega
              have HV := Lib.hid (HJ.out.1 (H3.out.2 hlong))
              go_wp2_with (first
              | (fail))
              have sw : IntKind.i64.wrap ((o.length : Int) + (y.text.length : Int)) = (o.length : Int) + (y.text.length : Int) := IntWalk.i64_in _ (by omega)
              go_quiet ((go_at_call 64; exact Calls.quiet_of_same (built_len ((hB.out.1.keep ((Below.refl _ _).alloc (Nat.le_refl _) _)).drewN _))))
              clear sw
              go_wp2_with fail
              (try simp only [Exit.inBlock, Exit.then, Exit.noGoto_ret])
              go_ret2
              exact ⟨by rw [HV.out]; rfl, below_drewN (hB.out.2.alloc hbz2 _) _⟩
            · have dl : decide (4096 < (o.length : Int) + (y.text.length : Int)) = false := by simp only [decide_eq_false_iff_not]; omega
              have SH : Hid (∀ W, Below w.heap.size w W → Calls Tryz.prog 66 #[.agg #[.int .i64 y.kind, .string (txt y.text), .int .i64 y.num, .int .i64 y.place]] W fun e w' => e = .returned (.string (txt (shownN y))) ∧ Below W.heap.size W w') := Lib.hid (fun W hW => lshown_any y Hok.out (by omega) W (Hp.out.below hW))
              have hsb := shown_bound Hok.out (show y.text.length ≤ 4096 by omega)
              have Hsb := Lib.hid (And.intro hsb.1 (And.intro (bs_txt hsb.2) (txt_size (shownN y))))
              clear hsb
              go_wp2_with (first
              | (fail))
              have sw : IntKind.i64.wrap ((o.length : Int) + (y.text.length : Int)) = (o.length : Int) + (y.text.length : Int) := IntWalk.i64_in _ (by omega)
              go_quiet ((go_at_call 64; exact Calls.quiet_of_same (built_len ((hB.out.1.keep ((Below.refl _ _).alloc (Nat.le_refl _) _)).drewN _))))
              clear sw
              go_wp2_with (first
                | (go_at_call 66
                   refine (SH.out _ (below_drewN (hB.out.2.alloc hbz2 _) _)).mono ?_
                   rintro e w3 ⟨rfl, b3⟩
                   have S3 := Lib.hid (And.intro (((hB.out.1.keep ((Below.refl _ _).alloc (Nat.le_refl _) _)).drewN _).keep b3) ((below_drewN (hB.out.2.alloc hbz2 _) _).trans (b3.mono (Nat.le_trans hbz2 (Nat.le_of_lt (by simp))))))
                   have z3 : wo.heap.size ≤ w3.heap.size := Nat.le_trans (by simp; omega) b3.size
                   clear b3)
                | (go_at_call 65
                   refine (write_text _ S3.out.1 (by rw [Hsb.out.2.2]; have := Hsb.out.1; omega) z3).mono ?_
                   rintro e w4 ⟨rfl, s4, b4, _⟩
                   rw [Hsb.out.2.1] at s4
                   have S4 := Lib.hid (And.intro s4 (S3.out.2.trans (b4.mono hbz)))
                   have z4 : wo.heap.size < w4.heap.size := by obtain ⟨_, _, _, _, hbk, _⟩ := s4; exact hbk.lt
                   clear s4 b4))
              go_roundw
              case rel => exact ⟨0 + 1, o ++ shownN y, by omega, by go_num, by rw [List.length_append]; have := Hsb.out.1; omega, H3.out.1, S4.out, z4⟩
              case measure => simp [intOf]; omega
          · rw [if_neg (by omega)] at ho'
            have dk : decide (0 < (k : Int)) = true := by simp; omega
            have Ho := Lib.hid ho'
            clear ho'
            have hol' : (o'.length : Int) ≤ 30001 := by omega
            have hyz' : (y.text.length : Int) ≤ 281474976710656 := by omega
            have hnn : (0 : Int) ≤ (o'.length : Int) := Int.natCast_nonneg _
            have hnn2 : (0 : Int) ≤ (y.text.length : Int) := Int.natCast_nonneg _
            by_cases hlong : 4096 < o'.length + y.text.length
            · have dl : decide (4096 < (o'.length : Int) + (y.text.length : Int)) = true := by simp only [decide_eq_true_eq]; omega
              have HV := Lib.hid (HJ.out.1 (H3.out.2 hlong))
              go_wp2_with (first
              | (go_at_call 63
                 refine (write_byte 32 (by omega) (hB.out.1.keep ((Below.refl _ _).alloc (Nat.le_refl _) _)) (by omega) (by simp; omega)).mono ?_
                 rintro e w1 ⟨rfl, s1, b1', k1⟩
                 rw [Ho.out] at s1
                 have S1 := Lib.hid (And.intro s1 (And.intro ((hB.out.2.alloc hbz2 _).trans (b1'.mono hbz)) (k1 _ _ _ (Blk.new wr _ _) (by decide) (by omega))))
                 have c0 := S1.out.2.2.cell (i := 0) rfl
                 have c1 := S1.out.2.2.cell (i := 1) rfl
                 have c2 := S1.out.2.2.cell (i := 2) rfl
                 have c3 := S1.out.2.2.cell (i := 3) rfl
                 have z0 := S1.out.2.2.lt
                 have z1 : wo.heap.size ≤ w1.heap.size := Nat.le_trans (Nat.le_trans (Nat.le_of_lt hwz) (by simp)) b1'.size
                 clear s1 b1' k1))
              have sw : IntKind.i64.wrap ((o'.length : Int) + (y.text.length : Int)) = (o'.length : Int) + (y.text.length : Int) := IntWalk.i64_in _ (by omega)
              go_quiet ((go_at_call 64; exact Calls.quiet_of_same (built_len (S1.out.1.drewN _))))
              clear sw
              go_wp2_with fail
              (try simp only [Exit.inBlock, Exit.then, Exit.noGoto_ret])
              go_ret2
              exact ⟨by rw [HV.out]; rfl, below_drewN S1.out.2.1 _⟩
            · have dl : decide (4096 < (o'.length : Int) + (y.text.length : Int)) = false := by simp only [decide_eq_false_iff_not]; omega
              have SH : Hid (∀ W, Below w.heap.size w W → Calls Tryz.prog 66 #[.agg #[.int .i64 y.kind, .string (txt y.text), .int .i64 y.num, .int .i64 y.place]] W fun e w' => e = .returned (.string (txt (shownN y))) ∧ Below W.heap.size W w') := Lib.hid (fun W hW => lshown_any y Hok.out (by omega) W (Hp.out.below hW))
              have hsb := shown_bound Hok.out (show y.text.length ≤ 4096 by omega)
              have Hsb := Lib.hid (And.intro hsb.1 (And.intro (bs_txt hsb.2) (txt_size (shownN y))))
              clear hsb
              go_wp2_with (first
              | (go_at_call 63
                 refine (write_byte 32 (by omega) (hB.out.1.keep ((Below.refl _ _).alloc (Nat.le_refl _) _)) (by omega) (by simp; omega)).mono ?_
                 rintro e w1 ⟨rfl, s1, b1', k1⟩
                 rw [Ho.out] at s1
                 have S1 := Lib.hid (And.intro s1 (And.intro ((hB.out.2.alloc hbz2 _).trans (b1'.mono hbz)) (k1 _ _ _ (Blk.new wr _ _) (by decide) (by omega))))
                 have c0 := S1.out.2.2.cell (i := 0) rfl
                 have c1 := S1.out.2.2.cell (i := 1) rfl
                 have c2 := S1.out.2.2.cell (i := 2) rfl
                 have c3 := S1.out.2.2.cell (i := 3) rfl
                 have z0 := S1.out.2.2.lt
                 have z1 : wo.heap.size ≤ w1.heap.size := Nat.le_trans (Nat.le_trans (Nat.le_of_lt hwz) (by simp)) b1'.size
                 clear s1 b1' k1))
              have sw : IntKind.i64.wrap ((o'.length : Int) + (y.text.length : Int)) = (o'.length : Int) + (y.text.length : Int) := IntWalk.i64_in _ (by omega)
              go_quiet ((go_at_call 64; exact Calls.quiet_of_same (built_len (S1.out.1.drewN _))))
              clear sw
              go_wp2_with (first
                | (go_at_call 66
                   refine (SH.out _ (below_drewN S1.out.2.1 _)).mono ?_
                   rintro e w3 ⟨rfl, b3⟩
                   have S3 := Lib.hid (And.intro ((S1.out.1.drewN _).keep b3) ((below_drewN S1.out.2.1 _).trans (b3.mono S1.out.2.1.size)))
                   have z3 : wo.heap.size ≤ w3.heap.size := Nat.le_trans z1 b3.size
                   clear b3)
                | (go_at_call 65
                   refine (write_text _ S3.out.1 (by rw [Hsb.out.2.2]; have := Hsb.out.1; omega) z3).mono ?_
                   rintro e w4 ⟨rfl, s4, b4, _⟩
                   rw [Hsb.out.2.1] at s4
                   have S4 := Lib.hid (And.intro s4 (S3.out.2.trans (b4.mono hbz)))
                   have z4 : wo.heap.size < w4.heap.size := by obtain ⟨_, _, _, _, hbk, _⟩ := s4; exact hbk.lt
                   clear s4 b4))
              go_roundw
              case rel => exact ⟨k + 1, o' ++ shownN y, by omega, by go_num, by rw [List.length_append]; have := Hsb.out.1; omega, H3.out.1, S4.out, z4⟩
              case measure => simp [intOf]; omega
        · have hdec : decide (k < n) = false := by simp; omega
          have hdec2 : decide ((k : Int) < (n : Int)) = false := by simp; omega
          have hoJ := join_end hj.out (by rw [Hlen.out]; omega)
          subst hoJ
          have LN : Hid (∀ W, BuiltSt W wo.heap.size wo.heap.size o → Calls Tryz.prog 64 #[.pointer (some ⟨wo.heap.size, 0, none⟩)] W fun e w' => e = .returned (.int .i64 (o.length : Int)) ∧ w' = W) := Lib.hid (fun W h => built_len h)
          by_cases hbig' : 4096 < o.length
          · have hd : decide (4096 < (o.length : Int)) = true := by simp; omega
            have HV := Lib.hid (HJ.out.1 hbig')
            clear hj
            go_wp2_with (first
              | (go_at_call 64
                 refine (LN.out _ hB.out.1).mono ?_
                 rintro e w1 ⟨rfl, rfl⟩))
            (try simp only [Exit.inBlock, Exit.then, Exit.noGoto_ret])
            go_ret2
            exact ⟨by rw [HV.out]; rfl, hB.out.2⟩
          · have hd : decide (4096 < (o.length : Int)) = false := by simp; omega
            have HV := Lib.hid (HJ.out.2.1 hbig')
            clear hj
            go_wp2_with (first
              | (go_at_call 64
                 refine (LN.out _ hB.out.1).mono ?_
                 rintro e w1 ⟨rfl, rfl⟩)
              | (go_at_call 67
                 refine (built_text hB.out.1 (Nat.le_of_lt hwz)).mono ?_
                 rintro e w2 ⟨rfl, b2⟩
                 have B2 := Lib.hid (hB.out.2.trans (b2.mono hbz))
                 clear b2))
            (try simp only [Exit.inBlock, Exit.then, Exit.noGoto_ret])
            go_ret2
            exact ⟨by rw [HV.out]; rfl, B2.out⟩
end Go.Proofs.YtidkbodmiegbkaaGreatDoor
namespace Go.Proofs.YtidkbodmiegbkaaGreatDoor
set_option linter.unusedSimpArgs false
set_option linter.unusedVariables false
open Go.RowKit
theorem right_len {s : List Nat} (h : rightN s = true) : s.length ≤ 32 := by
  unfold rightN at h
  split at h
  · cases h
  · rw [Bool.and_eq_true, Bool.and_eq_true] at h
    exact of_decide_eq_true h.1.1
theorem join_name (s : List Nat) : (joinN [⟨3, s, 0, 0⟩]).2 = if rightN s && !decide (s ∈ wordsL) then 0 else 2 := by
  have hm : ([⟨3, s, 0, 0⟩] : List Tok).all mayN = (rightN s && !decide (s ∈ wordsL)) := by simp [mayN]
  unfold joinN
  rw [hm]
  by_cases h : (rightN s && !decide (s ∈ wordsL)) = true
  · rw [if_pos h, if_pos h]
    have hl : (joinAll [] true [(⟨3, s, 0, 0⟩ : Tok)]).length ≤ 4096 := by
      rw [Bool.and_eq_true] at h
      have := right_len h.1
      simp [joinAll, shownN]
      omega
    rw [if_neg (by omega)]
  · rw [if_neg h, if_neg h]
set_option maxRecDepth 100000 in
set_option maxHeartbeats 4000000 in
theorem p_plain (s : List Nat) (hb : Bytes s) (hl : s.length ≤ 140737488355328) (w : World) (hm : Marks w) (hp : Pow w) : Calls Tryz.prog 28 #[.string (txt s)] w fun e w' => e = .returned (.bool (plain8N s)) ∧ Below w.heap.size w w' := by
  have hok : Tok.ok ⟨3, s, 0, 0⟩ := ⟨hb, by show s.length ≤ maxLen; unfold maxLen; omega, by show (Lit.int .i64 3).wf = true; decide, by show (Lit.int .i64 0).wf = true; decide, by show (Lit.int .i64 0).wf = true; decide⟩
  have B0 : Below w.heap.size w (w.alloc (.cells #[.int .i64 3, .string (txt s), .int .i64 0, .int .i64 0] 82)) := (Below.refl _ _).alloc (Nat.le_refl _) _
  have hw1 : SlR (w.alloc (.cells #[.int .i64 3, .string (txt s), .int .i64 0, .int .i64 0] 82)) (w.alloc (.cells #[.int .i64 3, .string (txt s), .int .i64 0, .int .i64 0] 82)).heap.size 4 Tok.Is (.slice (some ⟨w.heap.size, 0, none⟩) 1 1) [⟨3, s, 0, 0⟩] := (SlR.new1 (x := [.int .i64 3, .string (txt s), .int .i64 0, .int .i64 0]) rfl rfl ⟨rfl, hok⟩).more (by simp)
  have JN := Lib.hid (join_any _ _ hw1 (Below.refl _ _) (fun t ht => by simp at ht; subst ht; simp only; omega) (hm.below B0) (hp.below B0))
  rw [join_name] at JN
  have RT : Hid (∀ W, Calls Tryz.prog 40 #[.string (txt s)] W fun e w' => e = .returned (.bool (rightN s)) ∧ Quiet W w') := Lib.hid (fun W => by have h0 := right_any (txt s) (by rw [txt_size]; unfold maxLen; omega) W; rw [bs_txt hb] at h0; exact h0)
  have HB0 := Lib.hid B0
  unfold plain8N
  obtain ⟨r, hr⟩ : ∃ r, rightN s = r := ⟨_, rfl⟩
  obtain ⟨d, hd⟩ : ∃ d, decide (s ∈ wordsL) = d := ⟨_, rfl⟩
  rw [hr, hd] at JN ⊢
  rw [hr] at RT
  clear hm hp hw1 B0 hok hr hd hb hl
  cases r <;> cases d
  · have JX : Hid (Calls Tryz.prog 39 #[.slice (some ⟨w.heap.size, 0, none⟩) 1 1] (w.alloc (.cells #[.int .i64 3, .string (txt s), .int .i64 0, .int .i64 0] 82)) fun e w' => (∃ v, e = .returned (.tuple #[.string v, .int .i64 2])) ∧ Below (w.alloc (.cells #[.int .i64 3, .string (txt s), .int .i64 0, .int .i64 0] 82)).heap.size (w.alloc (.cells #[.int .i64 3, .string (txt s), .int .i64 0, .int .i64 0] 82)) w') := Lib.hid (JN.out.mono fun e w' ⟨he, hb⟩ => ⟨⟨_, he⟩, hb⟩)
    clear JN
    go_enter Tryz.func28, Tryz.ntmps28
    go_wp2_with (first
      | (go_at_call 39; refine JX.out.mono ?_; rintro e w1 ⟨⟨v, rfl⟩, b1⟩; have B1 := Lib.hid b1; clear b1)
      | (go_at_call 40; refine (RT.out _).mono ?_; rintro e w2 ⟨rfl, q2⟩; have Q2 := Lib.hid q2; clear q2))
    go_ret
    exact ⟨rfl, (HB0.out.trans (B1.out.mono HB0.out.size)).trans (Q2.out.below _)⟩
  · have JX : Hid (Calls Tryz.prog 39 #[.slice (some ⟨w.heap.size, 0, none⟩) 1 1] (w.alloc (.cells #[.int .i64 3, .string (txt s), .int .i64 0, .int .i64 0] 82)) fun e w' => (∃ v, e = .returned (.tuple #[.string v, .int .i64 2])) ∧ Below (w.alloc (.cells #[.int .i64 3, .string (txt s), .int .i64 0, .int .i64 0] 82)).heap.size (w.alloc (.cells #[.int .i64 3, .string (txt s), .int .i64 0, .int .i64 0] 82)) w') := Lib.hid (JN.out.mono fun e w' ⟨he, hb⟩ => ⟨⟨_, he⟩, hb⟩)
    clear JN
    go_enter Tryz.func28, Tryz.ntmps28
    go_wp2_with (first
      | (go_at_call 39; refine JX.out.mono ?_; rintro e w1 ⟨⟨v, rfl⟩, b1⟩; have B1 := Lib.hid b1; clear b1)
      | (go_at_call 40; refine (RT.out _).mono ?_; rintro e w2 ⟨rfl, q2⟩; have Q2 := Lib.hid q2; clear q2))
    go_ret
    exact ⟨rfl, (HB0.out.trans (B1.out.mono HB0.out.size)).trans (Q2.out.below _)⟩
  · have JX : Hid (Calls Tryz.prog 39 #[.slice (some ⟨w.heap.size, 0, none⟩) 1 1] (w.alloc (.cells #[.int .i64 3, .string (txt s), .int .i64 0, .int .i64 0] 82)) fun e w' => (∃ v, e = .returned (.tuple #[.string v, .int .i64 0])) ∧ Below (w.alloc (.cells #[.int .i64 3, .string (txt s), .int .i64 0, .int .i64 0] 82)).heap.size (w.alloc (.cells #[.int .i64 3, .string (txt s), .int .i64 0, .int .i64 0] 82)) w') := Lib.hid (JN.out.mono fun e w' ⟨he, hb⟩ => ⟨⟨_, he⟩, hb⟩)
    clear JN
    go_enter Tryz.func28, Tryz.ntmps28
    go_wp2_with (first
      | (go_at_call 39; refine JX.out.mono ?_; rintro e w1 ⟨⟨v, rfl⟩, b1⟩; have B1 := Lib.hid b1; clear b1)
      | (go_at_call 40; refine (RT.out _).mono ?_; rintro e w2 ⟨rfl, q2⟩; have Q2 := Lib.hid q2; clear q2))
    go_ret
    exact ⟨rfl, (HB0.out.trans (B1.out.mono HB0.out.size)).trans (Q2.out.below _)⟩
  · have JX : Hid (Calls Tryz.prog 39 #[.slice (some ⟨w.heap.size, 0, none⟩) 1 1] (w.alloc (.cells #[.int .i64 3, .string (txt s), .int .i64 0, .int .i64 0] 82)) fun e w' => (∃ v, e = .returned (.tuple #[.string v, .int .i64 2])) ∧ Below (w.alloc (.cells #[.int .i64 3, .string (txt s), .int .i64 0, .int .i64 0] 82)).heap.size (w.alloc (.cells #[.int .i64 3, .string (txt s), .int .i64 0, .int .i64 0] 82)) w') := Lib.hid (JN.out.mono fun e w' ⟨he, hb⟩ => ⟨⟨_, he⟩, hb⟩)
    clear JN
    go_enter Tryz.func28, Tryz.ntmps28
    go_wp2_with (first
      | (go_at_call 39; refine JX.out.mono ?_; rintro e w1 ⟨⟨v, rfl⟩, b1⟩; have B1 := Lib.hid b1; clear b1)
      | (go_at_call 40; refine (RT.out _).mono ?_; rintro e w2 ⟨rfl, q2⟩; have Q2 := Lib.hid q2; clear q2))
    go_ret
    exact ⟨rfl, (HB0.out.trans (B1.out.mono HB0.out.size)).trans (Q2.out.below _)⟩
/-- the node's own test, part by part -/
theorem mayE_def (k : Int) (s : List Nat) (n : Int) (ks : List Int) : mayE ⟨k, s, n, ks⟩ = (decide (kidsN k = (ks.length : Int)) && !(decide (n ≠ 0) && decide (k ≠ 1)) && !decide (n = -9223372036854775808) && (if k ∈ namedL then plain8N s else decide (s = []) || (decide (k = 2) && decide (s.length ≤ 4096)))) := rfl
set_option maxRecDepth 100000 in
set_option maxHeartbeats 8000000 in
theorem p_may (k : Int) (s : List Nat) (n : Int) (ks : List Int) (ka : Option Addr) (kn kc : Nat) (hkn : kn = ks.length) (hk63 : kn ≤ 9223372036854775807) (hb : Bytes s) (hl : s.length ≤ 140737488355328) (w : World) (hm : Marks w) (hp : Pow w) :
    Calls Tryz.prog 21 #[.agg #[.int .i64 k, .string (txt s), .int .i64 n, .slice ka kn kc]] w fun e w' => e = .returned (.bool (mayE ⟨k, s, n, ks⟩)) ∧ Below w.heap.size w w' := by
  rw [mayE_def, ← hkn]
  have BX : Hid (Below w.heap.size w (w.alloc (.cells #[.int .i64 k, .string (txt s), .int .i64 n, .slice ka kn kc] 40))) := Lib.hid ((Below.refl _ _).alloc (Nat.le_refl _) _)
  have PN : Hid (∀ W, Below w.heap.size w W → Calls Tryz.prog 28 #[.string (txt s)] W fun e w' => e = .returned (.bool (plain8N s)) ∧ Below W.heap.size W w') := Lib.hid (fun W hW => p_plain s hb hl W (hm.below hW) (hp.below hW))
  have KD : Hid (∀ W, Calls Tryz.prog 26 #[.int .i64 k] W fun e w' => e = .returned (.int .i64 (kidsN k)) ∧ w' = W) := Lib.hid (fun W => p_kids k W)
  obtain ⟨kd, hkd⟩ : ∃ z, kidsN k = z := ⟨_, rfl⟩
  rw [hkd] at KD ⊢
  obtain ⟨nm, hnm⟩ : ∃ b, decide (k ∈ namedL) = b := ⟨_, rfl⟩
  have NM := Lib.hid hnm
  have HS := Lib.hid (And.intro hb hl)
  clear hkd hm hp hkn hb hl
  by_cases h1 : kd = (kn : Int)
  rotate_left
  · have a1 : (kd != (kn : Int)) = true := by simpa using h1
    rw [decide_eq_false h1]
    simp only [Bool.false_and]
    clear h1 hnm
    go_enter Tryz.func21, Tryz.ntmps21
    go_wp2_with fail
    go_quiet ((go_at_call 26; with_reducible exact quiet_callw (KD.out _)))
    go_wp2_with fail
    go_ret
    exact ⟨rfl, below_drewN BX.out _⟩
  subst h1
  have a1 : ((kn : Int) != (kn : Int)) = false := by simp
  rw [decide_eq_true rfl]
  by_cases h2 : n = 0
  · subst h2
    have hmin : decide ((0 : Int) = -9223372036854775808) = false := by decide
    rw [hmin]
    simp only [ne_eq, not_true_eq_false, decide_false, Bool.false_and, Bool.not_false, Bool.true_and]
    clear hmin a1
    cases nm with
    | true =>
      have hin := of_decide_eq_true hnm
      rw [if_pos hin]
      clear hin hnm
      go_enter Tryz.func21, Tryz.ntmps21
      go_wp2_with fail
      go_quiet ((go_at_call 26; with_reducible exact quiet_callw (KD.out _)))
      go_wp2_with (first
            | (go_at_call 27; refine (p_named _ _).mono ?_; rw [NM.out]; rintro e w3 ⟨rfl, rfl⟩)
            | (go_at_call 28; refine (PN.out _ (by exact BX.out.trans ((below_drewN (Below.refl _ _) _)))).mono ?_; rintro e w4 ⟨rfl, b4⟩; have B4 := Lib.hid b4; clear b4))
      go_ret
      exact ⟨rfl, (below_drewN BX.out _).trans (B4.out.mono (by have := BX.out.size; exact this))⟩
    | false =>
      have hin := of_decide_eq_false hnm
      rw [if_neg hin]
      clear hin hnm
      by_cases h5 : s = []
      · subst h5
        have a5 : ((txt []).toList == []) = true := by rw [nil_facts]; rfl
        simp only [decide_true, Bool.true_or]
        go_enter Tryz.func21, Tryz.ntmps21
        go_wp2_with fail
        go_quiet ((go_at_call 26; with_reducible exact quiet_callw (KD.out _)))
        go_wp2_with (first
              | (go_at_call 27; refine (p_named _ _).mono ?_; rw [NM.out]; rintro e w3 ⟨rfl, rfl⟩)
              | (go_at_call 28; refine (PN.out _ (by exact BX.out.trans ((below_drewN (Below.refl _ _) _)))).mono ?_; rintro e w4 ⟨rfl, b4⟩; have B4 := Lib.hid b4; clear b4))
        go_ret
        exact ⟨rfl, below_drewN BX.out _⟩
      · have a5 : ((txt s).toList == []) = false := by rw [beq_eq_false_iff_ne]; exact txt_empty HS.out.1 h5
        rw [decide_eq_false h5, Bool.false_or]
        clear h5
        by_cases h6 : k = 2
        · subst h6
          simp only [decide_true, Bool.true_and]
          obtain ⟨sl, hsl⟩ : ∃ z, s.length = z := ⟨_, rfl⟩
          have a7 : ((txt s).size : Int) = (sl : Int) := by rw [txt_size, hsl]
          rw [hsl]
          clear hsl
          by_cases h7 : sl ≤ 4096
          · have a8 : decide (sl ≤ 4096) = true := by simpa using h7
            have a9 : decide ((sl : Int) ≤ 4096) = true := by simp; omega
            rw [a8]
            clear h7
            go_enter Tryz.func21, Tryz.ntmps21
            go_wp2_with fail
            go_quiet ((go_at_call 26; with_reducible exact quiet_callw (KD.out _)))
            go_wp2_with (first
                  | (go_at_call 27; refine (p_named _ _).mono ?_; rw [NM.out]; rintro e w3 ⟨rfl, rfl⟩)
                  | (go_at_call 28; refine (PN.out _ (by exact BX.out.trans ((below_drewN (Below.refl _ _) _)))).mono ?_; rintro e w4 ⟨rfl, b4⟩; have B4 := Lib.hid b4; clear b4))
            go_ret
            exact ⟨rfl, below_drewN BX.out _⟩
          · have a8 : decide (sl ≤ 4096) = false := by simpa using h7
            have a9 : decide ((sl : Int) ≤ 4096) = false := by simp; omega
            rw [a8]
            clear h7
            go_enter Tryz.func21, Tryz.ntmps21
            go_wp2_with fail
            go_quiet ((go_at_call 26; with_reducible exact quiet_callw (KD.out _)))
            go_wp2_with (first
                  | (go_at_call 27; refine (p_named _ _).mono ?_; rw [NM.out]; rintro e w3 ⟨rfl, rfl⟩)
                  | (go_at_call 28; refine (PN.out _ (by exact BX.out.trans ((below_drewN (Below.refl _ _) _)))).mono ?_; rintro e w4 ⟨rfl, b4⟩; have B4 := Lib.hid b4; clear b4))
            go_ret
            exact ⟨rfl, below_drewN BX.out _⟩
        · have a6 : (k == 2) = false := by simpa using h6
          rw [decide_eq_false h6, Bool.false_and]
          clear h6
          go_enter Tryz.func21, Tryz.ntmps21
          go_wp2_with fail
          go_quiet ((go_at_call 26; with_reducible exact quiet_callw (KD.out _)))
          go_wp2_with (first
                | (go_at_call 27; refine (p_named _ _).mono ?_; rw [NM.out]; rintro e w3 ⟨rfl, rfl⟩)
                | (go_at_call 28; refine (PN.out _ (by exact BX.out.trans ((below_drewN (Below.refl _ _) _)))).mono ?_; rintro e w4 ⟨rfl, b4⟩; have B4 := Lib.hid b4; clear b4))
          go_ret
          exact ⟨rfl, below_drewN BX.out _⟩
  · have a2 : (n != 0) = true := by simpa using h2
    by_cases h3 : k = 1
    · subst h3
      by_cases h4 : n = -9223372036854775808
      · subst h4
        simp only [decide_true, Bool.not_true, Bool.and_false, Bool.false_and]
        clear hnm h2
        go_enter Tryz.func21, Tryz.ntmps21
        go_wp2_with fail
        go_quiet ((go_at_call 26; with_reducible exact quiet_callw (KD.out _)))
        go_wp2_with fail
        go_ret
        exact ⟨rfl, below_drewN BX.out _⟩
      · have a4 : (n == -9223372036854775808) = false := by simpa using h4
        rw [decide_eq_false h4]
        simp only [ne_eq, not_true_eq_false, decide_false, Bool.and_false, Bool.not_false, Bool.true_and]
        clear h2 h4
        cases nm with
        | true =>
          have hin := of_decide_eq_true hnm
          rw [if_pos hin]
          clear hin hnm
          go_enter Tryz.func21, Tryz.ntmps21
          go_wp2_with fail
          go_quiet ((go_at_call 26; with_reducible exact quiet_callw (KD.out _)))
          go_wp2_with (first
                | (go_at_call 27; refine (p_named _ _).mono ?_; rw [NM.out]; rintro e w3 ⟨rfl, rfl⟩)
                | (go_at_call 28; refine (PN.out _ (by exact BX.out.trans ((below_drewN (Below.refl _ _) _)))).mono ?_; rintro e w4 ⟨rfl, b4⟩; have B4 := Lib.hid b4; clear b4))
          go_ret
          exact ⟨rfl, (below_drewN BX.out _).trans (B4.out.mono (by have := BX.out.size; exact this))⟩
        | false =>
          have hin := of_decide_eq_false hnm
          rw [if_neg hin]
          clear hin hnm
          by_cases h5 : s = []
          · subst h5
            have a5 : ((txt []).toList == []) = true := by rw [nil_facts]; rfl
            simp only [decide_true, Bool.true_or]
            go_enter Tryz.func21, Tryz.ntmps21
            go_wp2_with fail
            go_quiet ((go_at_call 26; with_reducible exact quiet_callw (KD.out _)))
            go_wp2_with (first
                  | (go_at_call 27; refine (p_named _ _).mono ?_; rw [NM.out]; rintro e w3 ⟨rfl, rfl⟩)
                  | (go_at_call 28; refine (PN.out _ (by exact BX.out.trans ((below_drewN (Below.refl _ _) _)))).mono ?_; rintro e w4 ⟨rfl, b4⟩; have B4 := Lib.hid b4; clear b4))
            go_ret
            exact ⟨rfl, below_drewN BX.out _⟩
          · have a5 : ((txt s).toList == []) = false := by rw [beq_eq_false_iff_ne]; exact txt_empty HS.out.1 h5
            rw [decide_eq_false h5, Bool.false_or]
            clear h5
            have a6 : decide ((1 : Int) = 2) = false := by decide
            rw [a6, Bool.false_and]
            clear a6
            go_enter Tryz.func21, Tryz.ntmps21
            go_wp2_with fail
            go_quiet ((go_at_call 26; with_reducible exact quiet_callw (KD.out _)))
            go_wp2_with (first
                  | (go_at_call 27; refine (p_named _ _).mono ?_; rw [NM.out]; rintro e w3 ⟨rfl, rfl⟩)
                  | (go_at_call 28; refine (PN.out _ (by exact BX.out.trans ((below_drewN (Below.refl _ _) _)))).mono ?_; rintro e w4 ⟨rfl, b4⟩; have B4 := Lib.hid b4; clear b4))
            go_ret
            exact ⟨rfl, below_drewN BX.out _⟩
    · have a3 : (k != 1) = true := by simpa using h3
      simp only [ne_eq, h2, h3, not_false_eq_true, decide_true, Bool.and_self, Bool.not_true, Bool.and_false, Bool.false_and]
      clear hnm h2 h3
      go_enter Tryz.func21, Tryz.ntmps21
      go_wp2_with fail
      go_quiet ((go_at_call 26; with_reducible exact quiet_callw (KD.out _)))
      go_wp2_with fail
      go_ret
      exact ⟨rfl, below_drewN BX.out _⟩
end Go.Proofs.YtidkbodmiegbkaaGreatDoor
namespace Go.Proofs.YtidkbodmiegbkaaGreatDoor
set_option linter.unusedSimpArgs false
set_option linter.unusedVariables false
open Go.RowKit
/-- how tight a Kind is -/
def levelN (k : Int) : Nat := match signsL.find? (fun x => decide ((x.2.1 : Int) = k)) with
  | some x => x.2.2
  | none => if k = 29 then 3 else 8
/-- the sign of a Kind -/
def markT (k : Int) : List Nat := match signsL.find? (fun x => decide ((x.2.1 : Int) = k)) with
  | some x => x.1
  | none => []
/-- the words, as they are gone through, with their Kinds -/
def tellL : List (List Nat × Nat) := [([116, 114, 117, 101], 3), ([102, 97, 108, 115, 101], 4), ([115, 101, 108, 102], 5), ([110, 111, 110, 101], 6), ([115, 105, 122, 101], 14), ([102, 105, 114, 115, 116], 15), ([116, 101, 120, 116], 16), ([99, 111, 110, 99, 101, 112, 116], 17), ([105, 100], 18), ([105, 110, 116], 19), ([97, 110, 121], 31), ([101, 118, 101, 114, 121], 32), ([111, 110, 108, 121], 33), ([115, 117, 109], 34), ([105, 102], 30)]
/-- the word of a Kind -/
def wordT (k : Int) : List Nat := match tellL.find? (fun x => decide ((x.2 : Int) = k)) with
  | some x => x.1
  | none => []
end Go.Proofs.YtidkbodmiegbkaaGreatDoor
namespace Go.Proofs.YtidkbodmiegbkaaGreatDoor
set_option linter.unusedSimpArgs false
set_option linter.unusedVariables false
open Go.RowKit
/-- the text of a node's part -/
def kidT (g : Nat → Nat → List Nat) (d : ND) (i t : Nat) : List Nat := match d.kids[i]? with
  | some k => g k.toNat t
  | none => []
/-- a node's text without brackets -/
def bodyT (g : Nat → Nat → List Nat) (d : ND) : List Nat :=
  if d.kind = 1 then showN d.num
  else if d.kind = 2 then quoteN d.text
  else if d.kind = 7 then d.text
  else if levelN d.kind = 7 then kidT g d 0 7 ++ (markT d.kind ++ d.text)
  else if d.kind = 29 then [110, 111, 116, 32] ++ kidT g d 0 3
  else if levelN d.kind < 7 then kidT g d 0 (if levelN d.kind = 4 then 5 else levelN d.kind) ++ (([32] ++ markT d.kind) ++ [32]) ++ kidT g d 1 (levelN d.kind + 1)
  else if d.kind = 30 then [105, 102, 32] ++ kidT g d 0 0 ++ [32, 116, 104, 101, 110, 32] ++ kidT g d 1 0 ++ [32, 101, 108, 115, 101, 32] ++ kidT g d 2 0 ++ [32, 101, 110, 100]
  else if 31 ≤ d.kind then (((wordT d.kind ++ [32]) ++ d.text) ++ [32, 105, 110, 32]) ++ kidT g d 0 0 ++ [58, 32] ++ kidT g d 1 0 ++ [32, 101, 110, 100]
  else if d.kids.length = 1 then (wordT d.kind ++ [40]) ++ kidT g d 0 0 ++ [41]
  else wordT d.kind
/-- a node's text, in brackets if it is not as tight as that -/
def tellN (l : List ND) : Nat → Nat → Nat → List Nat
  | 0, _, _ => []
  | f + 1, m, t => match l[m]? with
    | none => []
    | some d => if levelN d.kind < t then [40] ++ bodyT (tellN l f) d ++ [41] else bodyT (tellN l f) d
section
variable {B b bb eb nb : Nat} {v : Value} {cs : Array Value} {W Y Y' : World} {o o' : List Nat}
theorem KeptBut.of_below {b : Nat} {w w' : World} (h : Below w.heap.size w w') : KeptBut b w w' := fun _ _ _ hb _ _ => hb.below h hb.lt
end
end Go.Proofs.YtidkbodmiegbkaaGreatDoor
namespace Go.Proofs.YtidkbodmiegbkaaGreatDoor
set_option linter.unusedSimpArgs false
set_option linter.unusedVariables false
open Go.RowKit
theorem may_text {d : ND} (h : mayE d = true) : d.text.length ≤ 4096 := by
  obtain ⟨k, s, nm, ks⟩ := d
  rw [mayE_def, Bool.and_eq_true] at h
  have h2 := h.2
  by_cases hin : k ∈ namedL
  · rw [if_pos hin] at h2
    unfold plain8N at h2
    rw [Bool.and_eq_true] at h2
    have := right_len h2.1
    simp only
    omega
  · rw [if_neg hin, Bool.or_eq_true, Bool.and_eq_true] at h2
    simp only
    rcases h2 with h2 | h2
    · rw [of_decide_eq_true h2]; simp
    · exact of_decide_eq_true h2.2
theorem right_met {l : List ND} (h : rightE l = 0) : l.length ≤ 256 ∧ ∃ r, metN l l.length 0 = some r ∧ r.2 = l.length ∧ r.1 ≤ 32 := by
  unfold rightE at h
  split at h
  · cases h
  · rename_i hl
    refine ⟨by omega, ?_⟩
    cases hr : metN l l.length 0 with
    | none => rw [hr] at h; cases h
    | some r =>
      rw [hr] at h
      simp only at h
      split at h
      · cases h
      · rename_i h2
        split at h
        · cases h
        · exact ⟨r, rfl, by omega, by omega⟩
end Go.Proofs.YtidkbodmiegbkaaGreatDoor
namespace Go.Proofs.YtidkbodmiegbkaaGreatDoor
set_option linter.unusedSimpArgs false
set_option linter.unusedVariables false
/-- which nodes may be, by their kinds -/
inductive Shape : Nat → List Nat → Int → List Tr → Prop
  | int {n : Int} : n ≠ -9223372036854775808 → Shape 1 [] n []
  | text {s : List Nat} : s.length ≤ 4096 → Shape 2 s 0 []
  | name {s : List Nat} : plain8N s = true → Shape 7 s 0 []
  | zero {y : List Nat × Nat × Nat} : y ∈ onesL → y.2.2 = 0 → Shape y.2.1 [] 0 []
  | post {x : List Nat × Nat × Nat} {s : List Nat} {a : Tr} : x ∈ signsL → x.2.2 = 7 → x.2.1 ≠ 11 → plain8N s = true → Shape x.2.1 s 0 [a]
  | parent {a : Tr} : Shape 11 [] 0 [a]
  | not_ {a : Tr} : Shape 29 [] 0 [a]
  | one {y : List Nat × Nat × Nat} {a : Tr} : y ∈ onesL → y.2.2 = 1 → Shape y.2.1 [] 0 [a]
  | bin {x : List Nat × Nat × Nat} {a b : Tr} : x ∈ signsL → x.2.2 < 7 → Shape x.2.1 [] 0 [a, b]
  | iff {a b c : Tr} : Shape 30 [] 0 [a, b, c]
  | loop {y : List Nat × Nat × Nat} {s : List Nat} {a b : Tr} : y ∈ onesL → y.2.2 = 2 → plain8N s = true → Shape y.2.1 s 0 [a, b]
/-- what a node of a tree holds -/
def Node (k : Nat) (s : List Nat) (n : Int) (ks : List Tr) : Prop := Shape k s n ks ∧ Bytes s ∧ -9223372036854775808 ≤ n ∧ n ≤ 9223372036854775807
mutual
/-- a tree of nodes that may be -/
def Tr.Good : Tr → Prop
  | .node k s n ks => Node k s n ks ∧ GoodL ks
def GoodL : List Tr → Prop
  | [] => True
  | t :: ts => t.Good ∧ GoodL ts
end
theorem list1 {β : Type} {ts : List β} (e : ts.length = 1) : ∃ a, ts = [a] := by
  match ts, e with
  | [a], _ => exact ⟨a, rfl⟩
theorem list2 {β : Type} {ts : List β} (e : ts.length = 2) : ∃ a b, ts = [a, b] := by
  match ts, e with
  | [a, b], _ => exact ⟨a, b, rfl⟩
theorem list3 {β : Type} {ts : List β} (e : ts.length = 3) : ∃ a b c, ts = [a, b, c] := by
  match ts, e with
  | [a, b, c], _ => exact ⟨a, b, c, rfl⟩
set_option maxHeartbeats 4000000 in
/-- a node that may be has one of the shapes -/
theorem shape_of {k : Nat} {s : List Nat} {n : Int} {ks : List Int} {ts : List Tr} (hl : ts.length = ks.length) (h : mayE ⟨(k : Int), s, n, ks⟩ = true) : Shape k s n ts := by
  rw [mayE_def, Bool.and_eq_true, Bool.and_eq_true, Bool.and_eq_true, ← hl] at h
  obtain ⟨⟨⟨h1, h2⟩, h3⟩, h4⟩ := h
  have h1 := of_decide_eq_true h1
  have hn : n ≠ -9223372036854775808 := by simpa using h3
  have hk : 1 ≤ k ∧ k ≤ 34 := by
    unfold kidsN at h1
    repeat' split at h1
    all_goals omega
  have hz : k ≠ 1 → n = 0 := by
    intro hk1
    rcases Classical.em (n = 0) with e | e
    · exact e
    · have e1 : ((k : Int) ≠ 1) := by omega
      rw [decide_eq_true e, decide_eq_true e1] at h2
      cases h2
  have nm : ∀ {m : Nat}, (m : Int) ∈ namedL → k = m → plain8N s = true := by
    intro m hm e
    subst e
    rw [if_pos hm] at h4
    exact h4
  have un : ∀ {m : Nat}, ¬ ((m : Int) ∈ namedL) → m ≠ 2 → k = m → s = [] := by
    intro m hm h2 e
    subst e
    rw [if_neg hm, decide_eq_false (p := ((k : Int) = 2)) (by omega)] at h4
    simpa using h4
  have hks : ∀ {m : Nat} {c : Nat}, kidsN (m : Int) = (c : Int) → k = m → ts.length = c := by
    intro m c hc e
    subst e
    rw [hc] at h1
    omega
  have hcases : k = 1 ∨ k = 2 ∨ k = 3 ∨ k = 4 ∨ k = 5 ∨ k = 6 ∨ k = 7 ∨ k = 8 ∨ k = 9 ∨ k = 10 ∨ k = 11 ∨ k = 12 ∨ k = 13 ∨ k = 14 ∨ k = 15 ∨ k = 16 ∨ k = 17 ∨ k = 18 ∨ k = 19 ∨ k = 20 ∨ k = 21 ∨ k = 22 ∨ k = 23 ∨ k = 24 ∨ k = 25 ∨ k = 26 ∨ k = 27 ∨ k = 28 ∨ k = 29 ∨ k = 30 ∨ k = 31 ∨ k = 32 ∨ k = 33 ∨ k = 34 := by omega
  have zeroC : ∀ y ∈ onesL, y.2.2 = 0 → ¬ ((y.2.1 : Nat) : Int) ∈ namedL ∧ y.2.1 ≠ 2 ∧ y.2.1 ≠ 1 ∧ kidsN ((y.2.1 : Nat) : Int) = ((0 : Nat) : Int) := by decide
  have oneC : ∀ y ∈ onesL, y.2.2 = 1 → ¬ ((y.2.1 : Nat) : Int) ∈ namedL ∧ y.2.1 ≠ 2 ∧ y.2.1 ≠ 1 ∧ kidsN ((y.2.1 : Nat) : Int) = ((1 : Nat) : Int) := by decide
  have loopC : ∀ y ∈ onesL, y.2.2 = 2 → ((y.2.1 : Nat) : Int) ∈ namedL ∧ y.2.1 ≠ 1 ∧ kidsN ((y.2.1 : Nat) : Int) = ((2 : Nat) : Int) := by decide
  have binC : ∀ x ∈ signsL, x.2.2 < 7 → ¬ ((x.2.1 : Nat) : Int) ∈ namedL ∧ x.2.1 ≠ 2 ∧ x.2.1 ≠ 1 ∧ kidsN ((x.2.1 : Nat) : Int) = ((2 : Nat) : Int) := by decide
  have postC : ∀ x ∈ signsL, x.2.2 = 7 → x.2.1 ≠ 11 → ((x.2.1 : Nat) : Int) ∈ namedL ∧ x.2.1 ≠ 1 ∧ kidsN ((x.2.1 : Nat) : Int) = ((1 : Nat) : Int) := by decide
  have zero : ∀ y ∈ onesL, y.2.2 = 0 → k = y.2.1 → Shape k s n ts := by
    intro y hy h0 e
    obtain ⟨c1, c2, c3, c4⟩ := zeroC y hy h0
    rw [un c1 c2 e, hz (by omega), List.eq_nil_of_length_eq_zero (hks c4 e), e]
    exact .zero hy h0
  have one : ∀ y ∈ onesL, y.2.2 = 1 → k = y.2.1 → Shape k s n ts := by
    intro y hy h0 e
    obtain ⟨c1, c2, c3, c4⟩ := oneC y hy h0
    obtain ⟨a, ha⟩ := list1 (hks c4 e)
    rw [un c1 c2 e, hz (by omega), ha, e]
    exact .one hy h0
  have loop : ∀ y ∈ onesL, y.2.2 = 2 → k = y.2.1 → Shape k s n ts := by
    intro y hy h0 e
    obtain ⟨c1, c2, c3⟩ := loopC y hy h0
    obtain ⟨a, b, ha⟩ := list2 (hks c3 e)
    have hp := nm c1 e
    rw [hz (by omega), ha, e]
    exact .loop hy h0 hp
  have bin : ∀ x ∈ signsL, x.2.2 < 7 → k = x.2.1 → Shape k s n ts := by
    intro x hx h0 e
    obtain ⟨c1, c2, c3, c4⟩ := binC x hx h0
    obtain ⟨a, b, ha⟩ := list2 (hks c4 e)
    rw [un c1 c2 e, hz (by omega), ha, e]
    exact .bin hx h0
  have post : ∀ x ∈ signsL, x.2.2 = 7 → x.2.1 ≠ 11 → k = x.2.1 → Shape k s n ts := by
    intro x hx h0 h11 e
    obtain ⟨c1, c2, c3⟩ := postC x hx h0 h11
    obtain ⟨a, ha⟩ := list1 (hks c3 e)
    have hp := nm c1 e
    rw [hz (by omega), ha, e]
    exact .post hx h0 h11 hp
  have fz : ∀ m ∈ [3, 4, 5, 6], ∃ y ∈ onesL, y.2.2 = 0 ∧ m = y.2.1 := by decide
  have fo : ∀ m ∈ [14, 15, 16, 17, 18, 19], ∃ y ∈ onesL, y.2.2 = 1 ∧ m = y.2.1 := by decide
  have fl : ∀ m ∈ [31, 32, 33, 34], ∃ y ∈ onesL, y.2.2 = 2 ∧ m = y.2.1 := by decide
  have fb : ∀ m ∈ [20, 21, 22, 23, 24, 25, 26, 27, 28], ∃ x ∈ signsL, x.2.2 < 7 ∧ m = x.2.1 := by decide
  have fp : ∀ m ∈ [8, 9, 10, 12, 13], ∃ x ∈ signsL, x.2.2 = 7 ∧ x.2.1 ≠ 11 ∧ m = x.2.1 := by decide
  have hsplit : k = 1 ∨ k = 2 ∨ k = 7 ∨ k = 11 ∨ k = 29 ∨ k = 30 ∨ k ∈ [3, 4, 5, 6] ∨ k ∈ [14, 15, 16, 17, 18, 19] ∨ k ∈ [31, 32, 33, 34] ∨ k ∈ [20, 21, 22, 23, 24, 25, 26, 27, 28] ∨ k ∈ [8, 9, 10, 12, 13] := by
    simp only [List.mem_cons, List.not_mem_nil, or_false]
    omega
  rcases hsplit with e | e | e | e | e | e | e | e | e | e | e
  · have hs : s = [] := un (m := 1) (by decide) (by decide) e
    have ht : ts.length = 0 := hks (m := 1) (c := 0) (by decide) e
    rw [hs, List.eq_nil_of_length_eq_zero ht, e]
    exact .int hn
  · have ht : ts.length = 0 := hks (m := 2) (c := 0) (by decide) e
    rw [hz (by omega), List.eq_nil_of_length_eq_zero ht]
    subst e
    refine .text ?_
    rw [if_neg (by decide)] at h4
    rw [Bool.or_eq_true, Bool.and_eq_true] at h4
    rcases h4 with h4 | h4
    · rw [of_decide_eq_true h4]; simp
    · exact of_decide_eq_true h4.2
  · have ht : ts.length = 0 := hks (m := 7) (c := 0) (by decide) e
    have hp : plain8N s = true := nm (m := 7) (by decide) e
    rw [hz (by omega), List.eq_nil_of_length_eq_zero ht, e]
    exact .name hp
  · have hs : s = [] := un (m := 11) (by decide) (by decide) e
    obtain ⟨a, ht⟩ := list1 (hks (m := 11) (c := 1) (by decide) e)
    rw [hs, hz (by omega), ht, e]
    exact .parent
  · have hs : s = [] := un (m := 29) (by decide) (by decide) e
    obtain ⟨a, ht⟩ := list1 (hks (m := 29) (c := 1) (by decide) e)
    rw [hs, hz (by omega), ht, e]
    exact .not_
  · have hs : s = [] := un (m := 30) (by decide) (by decide) e
    obtain ⟨a, b, c, ht⟩ := list3 (hks (m := 30) (c := 3) (by decide) e)
    rw [hs, hz (by omega), ht, e]
    exact .iff
  · obtain ⟨y, h1, h2, h3⟩ := fz k e
    exact zero y h1 h2 h3
  · obtain ⟨y, h1, h2, h3⟩ := fo k e
    exact one y h1 h2 h3
  · obtain ⟨y, h1, h2, h3⟩ := fl k e
    exact loop y h1 h2 h3
  · obtain ⟨y, h1, h2, h3⟩ := fb k e
    exact bin y h1 h2 h3
  · obtain ⟨y, h1, h2, h4, h3⟩ := fp k e
    exact post y h1 h2 h4 h3
/-- and what has one of the shapes may be -/
theorem may_of {k : Nat} {s : List Nat} {n : Int} {ks : List Int} {ts : List Tr} (hl : ts.length = ks.length) (h : Shape k s n ts) : mayE ⟨(k : Int), s, n, ks⟩ = true := by
  rw [mayE_def, ← hl]
  have zeroC : ∀ y ∈ onesL, y.2.2 = 0 → ¬ ((y.2.1 : Nat) : Int) ∈ namedL ∧ kidsN ((y.2.1 : Nat) : Int) = ((0 : Nat) : Int) := by decide
  have oneC : ∀ y ∈ onesL, y.2.2 = 1 → ¬ ((y.2.1 : Nat) : Int) ∈ namedL ∧ kidsN ((y.2.1 : Nat) : Int) = ((1 : Nat) : Int) := by decide
  have loopC : ∀ y ∈ onesL, y.2.2 = 2 → ((y.2.1 : Nat) : Int) ∈ namedL ∧ kidsN ((y.2.1 : Nat) : Int) = ((2 : Nat) : Int) := by decide
  have binC : ∀ x ∈ signsL, x.2.2 < 7 → ¬ ((x.2.1 : Nat) : Int) ∈ namedL ∧ kidsN ((x.2.1 : Nat) : Int) = ((2 : Nat) : Int) := by decide
  have postC : ∀ x ∈ signsL, x.2.2 = 7 → x.2.1 ≠ 11 → ((x.2.1 : Nat) : Int) ∈ namedL ∧ kidsN ((x.2.1 : Nat) : Int) = ((1 : Nat) : Int) := by decide
  cases h with
  | int h => simp [h]; decide
  | text h =>
    rw [if_neg (by decide), decide_eq_true h]
    simp
    decide
  | name h => rw [if_pos (by decide), h]; decide
  | zero hy h0 =>
    obtain ⟨c1, c2⟩ := zeroC _ hy h0
    rw [if_neg c1, c2]
    simp
  | post hx h0 h11 hp =>
    obtain ⟨c1, c2⟩ := postC _ hx h0 h11
    rw [if_pos c1, c2, hp]
    simp
  | parent => rfl
  | not_ => rfl
  | one hy h0 =>
    obtain ⟨c1, c2⟩ := oneC _ hy h0
    rw [if_neg c1, c2]
    simp
  | bin hx h0 =>
    obtain ⟨c1, c2⟩ := binC _ hx h0
    rw [if_neg c1, c2]
    simp
  | iff => rfl
  | loop hy h0 hp =>
    obtain ⟨c1, c2⟩ := loopC _ hy h0
    rw [if_pos c1, c2, hp]
    simp
/-- a node's text, by its parts' texts -/
def bodyG (k : Int) (s : List Nat) (n : Int) (c : Nat) (g : Nat → Nat → List Nat) : List Nat :=
  if k = 1 then showN n
  else if k = 2 then quoteN s
  else if k = 7 then s
  else if levelN k = 7 then g 0 7 ++ (markT k ++ s)
  else if k = 29 then [110, 111, 116, 32] ++ g 0 3
  else if levelN k < 7 then g 0 (if levelN k = 4 then 5 else levelN k) ++ (([32] ++ markT k) ++ [32]) ++ g 1 (levelN k + 1)
  else if k = 30 then [105, 102, 32] ++ g 0 0 ++ [32, 116, 104, 101, 110, 32] ++ g 1 0 ++ [32, 101, 108, 115, 101, 32] ++ g 2 0 ++ [32, 101, 110, 100]
  else if 31 ≤ k then (((wordT k ++ [32]) ++ s) ++ [32, 105, 110, 32]) ++ g 0 0 ++ [58, 32] ++ g 1 0 ++ [32, 101, 110, 100]
  else if c = 1 then (wordT k ++ [40]) ++ g 0 0 ++ [41]
  else wordT k
def kidG (gs : List (Nat → List Nat)) (i t : Nat) : List Nat := match gs[i]? with
  | some g => g t
  | none => []
mutual
/-- a tree's text -/
def tellT : Tr → Nat → List Nat
  | .node k s n ks => fun t => if levelN (k : Int) < t then [40] ++ bodyG k s n ks.length (kidG (tellTL ks)) ++ [41] else bodyG k s n ks.length (kidG (tellTL ks))
def tellTL : List Tr → List (Nat → List Nat)
  | [] => []
  | t :: ts => tellT t :: tellTL ts
end
theorem body_g (g : Nat → Nat → List Nat) (d : ND) : bodyT g d = bodyG d.kind d.text d.num d.kids.length (kidT g d) := rfl
theorem places_len : ∀ (ts : List Tr) (p : Nat), (placesL ts p).length = ts.length
  | [], _ => rfl
  | t :: ts, p => by simp only [placesL, List.length_cons, places_len ts]
/-- the nodes of a tree, as they may come in -/
def ndsT (t : Tr) (p : Nat) : List ND := (t.flat p).map EN.nd
def ndsL (ts : List Tr) (p : Nat) : List ND := (flatL ts p).map EN.nd
theorem nds_len (t : Tr) (p : Nat) : (ndsT t p).length = t.size := by unfold ndsT; rw [List.length_map, trFlat_len]
/-- where a tree stands in a list -/
def Stands (l : List ND) (t : Tr) (p : Nat) : Prop := (l.drop p).take t.size = ndsT t p
def StandsL (l : List ND) (ts : List Tr) (p : Nat) : Prop := (l.drop p).take (sizeL ts) = ndsL ts p
theorem StandsL.nil (l : List ND) (p : Nat) : StandsL l [] p := by simp [StandsL, sizeL, ndsL, flatL]
theorem StandsL.cons {l : List ND} {t : Tr} {ts : List Tr} {p : Nat} (h1 : Stands l t p) (h2 : StandsL l ts (p + t.size)) : StandsL l (t :: ts) p := by
  unfold StandsL Stands ndsL ndsT at *
  simp only [sizeL, flatL, List.map_append]
  rw [List.take_add, h1, List.drop_drop, h2]
/-- what the parts' reading gives, as trees -/
theorem metL_tree {l : List ND} {g : Nat → Option (Nat × Nat)} {T : Nat → Nat → List Nat} (hg : ∀ n r, g n = some r → ∃ t : Tr, t.Good ∧ r = (t.deep, n + t.size) ∧ Stands l t n ∧ ∀ m, T n m = tellT t m) :
    ∀ (ks : List Int) (n dp : Nat) (r : Nat × Nat), metL g ks n dp = some r → ∃ ts : List Tr, GoodL ts ∧ r = (max dp (deepL ts), n + sizeL ts) ∧ ks = (placesL ts n).map (fun n : Nat => (n : Int)) ∧ StandsL l ts n ∧ ∀ (d : ND), d.kids = ks → ∀ i m, kidT T d i m = kidG (tellTL ts) i m
  | [], n, dp, r, h => by
    simp only [metL] at h
    injection h with h
    refine ⟨[], trivial, by rw [← h]; simp [deepL, sizeL], rfl, StandsL.nil _ _, fun d hd i m => ?_⟩
    unfold kidT kidG
    rw [hd]
    simp [tellTL]
  | k :: ks, n, dp, r, h => by
    simp only [metL] at h
    split at h
    · rename_i e
      split at h
      · cases h
      · rename_i x hx
        obtain ⟨t, h1, h2, h3, h4⟩ := hg n x hx
        subst h2
        obtain ⟨ts, g1, g2, g3, g4, g5⟩ := metL_tree hg ks _ _ r h
        refine ⟨t :: ts, ⟨h1, g1⟩, ?_, ?_, StandsL.cons h3 g4, fun d hd i m => ?_⟩
        · rw [g2]
          simp only [deepL, sizeL, Prod.mk.injEq]
          constructor <;> omega
        · rw [e, g3]; rfl
        · unfold kidT kidG
          rw [hd]
          cases i with
          | zero =>
            simp only [tellTL, List.getElem?_cons_zero]
            rw [e, Int.toNat_natCast]
            exact h4 m
          | succ i =>
            have := g5 ⟨0, [], 0, ks⟩ rfl i m
            unfold kidT kidG at this
            simp only [tellTL, List.getElem?_cons_succ]
            exact this
    · cases h
theorem kind_nat {d : ND} (h : mayE d = true) : ∃ k : Nat, d.kind = (k : Int) := by
  obtain ⟨k, s, n, ks⟩ := d
  rw [mayE_def, Bool.and_eq_true, Bool.and_eq_true, Bool.and_eq_true] at h
  have h1 := of_decide_eq_true h.1.1.1
  refine ⟨k.toNat, ?_⟩
  simp only
  unfold kidsN at h1
  repeat' split at h1
  all_goals omega
/-- a node and all below it, as a tree -/
theorem metN_tree (l : List ND) (hok : ∀ d ∈ l, NdOk d) : ∀ (f p : Nat) (r : Nat × Nat), metN l f p = some r → ∃ t : Tr, t.Good ∧ r = (t.deep, p + t.size) ∧ Stands l t p ∧ ∀ m, tellN l f p m = tellT t m
  | 0, p, r, h => by simp only [metN] at h; cases h
  | f + 1, p, r, h => by
    simp only [metN] at h
    cases hd : l[p]? with
    | none => rw [hd] at h; cases h
    | some d =>
      rw [hd] at h
      simp only at h
      by_cases hm : mayE d = true
      · rw [if_pos hm] at h
        obtain ⟨x, hx, rfl⟩ := Option.map_eq_some_iff.1 h
        obtain ⟨ts, g1, g2, g3, g4, g5⟩ := metL_tree (l := l) (T := tellN l f) (fun n r hr => metN_tree l hok f n r hr) d.kids (p + 1) 0 x hx
        obtain ⟨k, hk⟩ := kind_nat hm
        have hmem : d ∈ l := List.mem_iff_getElem?.2 ⟨p, hd⟩
        obtain ⟨b1, b2, b3, b4⟩ := hok d hmem
        have g5' := g5 d rfl
        obtain ⟨dk, ds, dn, dks⟩ := d
        simp only at hk g3 b1 b3 b4
        subst hk
        have hlen : ts.length = dks.length := by rw [g3, List.length_map, places_len]
        refine ⟨.node k ds dn ts, ⟨⟨shape_of hlen hm, b1, b3, b4⟩, g1⟩, ?_, ?_, fun m => ?_⟩
        · rw [g2]
          simp only [Tr.deep, Tr.size, Nat.zero_max, Prod.mk.injEq, true_and]
          omega
        · unfold Stands ndsT
          simp only [Tr.size, Tr.flat, List.map_cons]
          have hp := (List.getElem?_eq_some_iff.1 hd).1
          have hpe := (List.getElem?_eq_some_iff.1 hd).2
          rw [List.drop_eq_getElem_cons hp, Nat.add_comm 1, List.take_succ_cons, hpe]
          unfold StandsL ndsL at g4
          rw [g4]
          congr 1
          rw [g3]
          rfl
        · rw [tellN, hd]
          simp only
          rw [body_g]
          simp only
          rw [← hlen, show kidT (tellN l f) ⟨k, ds, dn, dks⟩ = kidG (tellTL ts) from funext fun i => funext fun m => g5' i m]
          simp only [tellT]
      · rw [if_neg hm] at h; cases h
/-- a right list is a tree's -/
theorem right_tree {l : List ND} (hok : ∀ d ∈ l, NdOk d) (h : rightE l = 0) : ∃ t : Tr, t.Good ∧ t.deep ≤ 32 ∧ t.size ≤ 256 ∧ l = ndsT t 0 ∧ ∀ m, tellN l l.length 0 m = tellT t m := by
  obtain ⟨h1, r, h2, h3, h4⟩ := right_met h
  obtain ⟨t, g1, g2, g3, g4⟩ := metN_tree l hok _ _ _ h2
  subst g2
  simp only at h3 h4
  rw [Nat.zero_add] at h3
  refine ⟨t, g1, h4, by omega, ?_, g4⟩
  unfold Stands at g3
  rw [List.drop_zero, List.take_of_length_le (by omega)] at g3
  exact g3
mutual
theorem met_of {l : List ND} : ∀ (t : Tr) (f p : Nat), t.size ≤ f → t.Good → Stands l t p → metN l f p = some (t.deep, p + t.size) ∧ ∀ m, tellN l f p m = tellT t m
  | .node k s n ks, 0, p, hf, _, _ => by simp only [Tr.size] at hf; omega
  | .node k s n ks, f + 1, p, hf, hg, hs => by
    simp only [Tr.size] at hf
    obtain ⟨⟨hsh, hb⟩, hgl⟩ := hg
    have hs' := hs
    unfold Stands ndsT at hs
    simp only [Tr.size, Tr.flat, List.map_cons] at hs
    have h0 : l[p]? = some (EN.nd ⟨k, s, n, placesL ks (p + 1)⟩) := by
      have := congrArg List.head? hs
      rw [Nat.add_comm, List.head?_take, if_neg (by omega), List.head?_drop] at this
      exact this
    have htl : StandsL l ks (p + 1) := by
      have := congrArg (List.drop 1) hs
      rw [List.drop_take, List.drop_drop, Nat.add_sub_cancel_left] at this
      exact this
    have hlen : ks.length = ((placesL ks (p + 1)).map (fun n : Nat => (n : Int))).length := by rw [List.length_map, places_len]
    have hmay := may_of hlen hsh
    obtain ⟨k1, k2⟩ := metL_of ks f (p + 1) 0 (by omega) hgl htl
    refine ⟨?_, fun m => ?_⟩
    · rw [metN, h0]
      simp only
      rw [if_pos (show mayE (EN.nd ⟨k, s, n, placesL ks (p + 1)⟩) = true from hmay)]
      show Option.map _ (metL (metN l f) ((placesL ks (p + 1)).map (fun n : Nat => (n : Int))) (p + 1) 0) = _
      rw [k1]
      simp only [Option.map_some, Tr.deep, Tr.size, Nat.zero_max, Option.some.injEq, Prod.mk.injEq, true_and]
      omega
    · rw [tellN, h0]
      simp only
      rw [body_g]
      have e : kidT (tellN l f) (EN.nd ⟨k, s, n, placesL ks (p + 1)⟩) = kidG (tellTL ks) := funext fun i => funext fun m => k2 (EN.nd ⟨k, s, n, placesL ks (p + 1)⟩) rfl i m
      rw [e]
      show (if levelN (k : Int) < m then [40] ++ bodyG k s n ((placesL ks (p + 1)).map (fun n : Nat => (n : Int))).length (kidG (tellTL ks)) ++ [41] else bodyG k s n ((placesL ks (p + 1)).map (fun n : Nat => (n : Int))).length (kidG (tellTL ks))) = _
      rw [← hlen]
      simp only [tellT]
theorem metL_of {l : List ND} : ∀ (ts : List Tr) (f p dp : Nat), sizeL ts ≤ f → GoodL ts → StandsL l ts p → metL (metN l f) ((placesL ts p).map (fun n : Nat => (n : Int))) p dp = some (max dp (deepL ts), p + sizeL ts) ∧ ∀ (d : ND), d.kids = (placesL ts p).map (fun n : Nat => (n : Int)) → ∀ i m, kidT (tellN l f) d i m = kidG (tellTL ts) i m
  | [], f, p, dp, _, _, _ => by
    refine ⟨by simp [placesL, metL, deepL, sizeL], fun d hd i m => ?_⟩
    unfold kidT kidG
    rw [hd]
    simp [placesL, tellTL]
  | t :: ts, f, p, dp, hf, hg, hs => by
    simp only [sizeL] at hf
    have hs0 := hs
    unfold StandsL ndsL at hs
    simp only [sizeL, flatL, List.map_append] at hs
    rw [List.take_add] at hs
    have hln : ((l.drop p).take t.size).length = ((t.flat p).map EN.nd).length := by
      have := congrArg List.length hs
      simp only [List.length_append, List.length_take, List.length_drop, List.length_map, trFlat_len, trFlatL_len] at this ⊢
      omega
    obtain ⟨e1, e2⟩ := List.append_inj hs hln
    rw [List.drop_drop] at e2
    obtain ⟨k1, k2⟩ := met_of t f p (by omega) hg.1 e1
    obtain ⟨k3, k4⟩ := metL_of ts f (p + t.size) (max dp t.deep) (by omega) hg.2 e2
    refine ⟨?_, fun d hd i m => ?_⟩
    · simp only [placesL, List.map_cons, metL]
      rw [if_pos trivial, k1]
      simp only
      rw [k3]
      simp only [deepL, sizeL, Option.some.injEq, Prod.mk.injEq]
      constructor <;> omega
    · unfold kidT kidG
      rw [hd]
      simp only [placesL, List.map_cons, tellTL]
      cases i with
      | zero =>
        simp only [List.getElem?_cons_zero, Int.toNat_natCast]
        exact k2 m
      | succ i =>
        have := k4 ⟨0, [], 0, (placesL ts (p + t.size)).map (fun n : Nat => (n : Int))⟩ rfl i m
        unfold kidT kidG at this
        simp only [List.getElem?_cons_succ]
        exact this
end
/-- a tree's list is right, if it is neither too long nor too deep -/
theorem right_of {t : Tr} (hg : t.Good) (hs : t.size ≤ 256) (hd : t.deep ≤ 32) : rightE (ndsT t 0) = 0 ∧ ∀ m, tellN (ndsT t 0) (ndsT t 0).length 0 m = tellT t m := by
  have hst : Stands (ndsT t 0) t 0 := by
    unfold Stands
    rw [List.drop_zero, List.take_of_length_le (by rw [nds_len]; exact Nat.le_refl _)]
  obtain ⟨h1, h2⟩ := met_of (l := ndsT t 0) t (ndsT t 0).length 0 (by rw [nds_len]; exact Nat.le_refl _) hg hst
  refine ⟨?_, h2⟩
  unfold rightE
  rw [h1, nds_len, if_neg (by omega)]
  simp only
  rw [if_neg (by omega), if_neg (by omega)]
end Go.Proofs.YtidkbodmiegbkaaGreatDoor
namespace Go.Proofs.YtidkbodmiegbkaaGreatDoor
set_option linter.unusedSimpArgs false
set_option linter.unusedVariables false
open Go.RowKit
theorem stands_node {l : List ND} {k : Nat} {s : List Nat} {n : Int} {ks : List Tr} {p : Nat} (h : Stands l (.node k s n ks) p) : l[p]? = some ⟨(k : Int), s, n, (placesL ks (p + 1)).map fun n : Nat => (n : Int)⟩ ∧ StandsL l ks (p + 1) := by
  unfold Stands ndsT at h
  simp only [Tr.flat, Tr.size, List.map_cons] at h
  have h0 : l.drop p ≠ [] := by
    intro e
    rw [e] at h
    simp at h
  obtain ⟨d, r, hd⟩ := List.exists_cons_of_ne_nil h0
  rw [hd, Nat.add_comm, List.take_succ_cons] at h
  injection h with h1 h2
  have hr : r = l.drop (p + 1) := by
    have := congrArg List.tail hd
    rw [List.tail_drop] at this
    exact this.symm
  refine ⟨?_, ?_⟩
  · have := congrArg List.head? hd
    rw [List.head?_drop] at this
    rw [this, List.head?_cons, h1]
    rfl
  · unfold StandsL ndsL
    rw [← hr, h2]
theorem standsL_cons {l : List ND} {t : Tr} {ts : List Tr} {p : Nat} (h : StandsL l (t :: ts) p) : Stands l t p ∧ StandsL l ts (p + t.size) := by
  unfold StandsL ndsL at h
  simp only [flatL, sizeL, List.map_append] at h
  have hl : ((t.flat p).map EN.nd).length = t.size := by rw [List.length_map, trFlat_len]
  constructor
  · unfold Stands ndsT
    have := congrArg (List.take t.size) h
    rw [List.take_take, Nat.min_eq_left (by omega), List.take_left' hl] at this
    exact this
  · unfold StandsL ndsL
    have := congrArg (List.drop t.size) h
    rw [List.drop_take, List.drop_drop, Nat.add_sub_cancel_left, List.drop_left' hl] at this
    exact this
theorem stands_at {l : List ND} : ∀ {ts : List Tr} {p j : Nat} {t : Tr}, StandsL l ts p → ts[j]? = some t → ∃ q, (placesL ts p)[j]? = some q ∧ Stands l t q
  | [], p, j, t, h, e => by cases e
  | u :: ts, p, j, t, h, e => by
    obtain ⟨h1, h2⟩ := standsL_cons h
    cases j with
    | zero => simp at e; subst e; exact ⟨p, rfl, h1⟩
    | succ j => exact stands_at (ts := ts) (j := j) h2 (by simpa using e)
theorem good_at : ∀ {ts : List Tr} {j : Nat} {t : Tr}, GoodL ts → ts[j]? = some t → t.Good
  | [], j, t, h, e => by cases e
  | u :: ts, j, t, h, e => by
    cases j with
    | zero => simp at e; subst e; exact h.1
    | succ j => exact good_at (ts := ts) (j := j) h.2 (by simpa using e)
theorem deep_at : ∀ {ts : List Tr} {j : Nat} {t : Tr}, ts[j]? = some t → t.deep ≤ deepL ts
  | [], j, t, e => by cases e
  | u :: ts, j, t, e => by
    simp only [deepL]
    cases j with
    | zero => simp at e; subst e; omega
    | succ j => have := deep_at (ts := ts) (j := j) (by simpa using e); omega
theorem plain_len {s : List Nat} (h : plain8N s = true) : s.length ≤ 32 := by
  unfold plain8N at h
  simp only [Bool.and_eq_true] at h
  have h1 := h.1
  cases s with
  | nil => simp
  | cons c t =>
    unfold rightN at h1
    simp only [Bool.and_eq_true, decide_eq_true_eq] at h1
    exact h1.1.1
theorem shape_len {k : Nat} {s : List Nat} {n : Int} {ks : List Tr} (h : Shape k s n ks) : s.length ≤ 4096 := by
  cases h with
  | text h => exact h
  | name h => have := plain_len h; omega
  | post _ _ _ h => have := plain_len h; omega
  | loop _ _ h => have := plain_len h; omega
  | _ => simp
theorem kid_form {W0 : World} {l : List ND} {p B : Nat} {ks : List Tr} {ka : Option Addr} {kn kc : Nat} (hkv : SlR W0 B 1 IsI (.slice ka kn kc) ((placesL ks p).map fun n : Nat => (n : Int))) (hst : StandsL l ks p) {j : Nat} {t : Tr} (ht : ks[j]? = some t) : ∃ kb ko, ka = some ⟨kb, ko, none⟩ := by
  obtain ⟨q, hq, hs⟩ := stands_at hst ht
  have hq' : ((placesL ks p).map fun n : Nat => (n : Int))[j]? = some (q : Int) := by rw [List.getElem?_map, hq]; rfl
  obtain ⟨b, off, x, e1, hbB, hxl, rfl, hx⟩ := hkv.at_ hq'
  exact ⟨b, off, e1⟩
end Go.Proofs.YtidkbodmiegbkaaGreatDoor
namespace Go.Proofs.YtidkbodmiegbkaaGreatDoor
set_option linter.unusedSimpArgs false
set_option linter.unusedVariables false
/-- the kinds and their parts -/
theorem shape_cases {k : Nat} {s : List Nat} {n : Int} {ks : List Tr} (h : Shape k s n ks) :
    (ks = [] ∧ 1 ≤ k ∧ k ≤ 7) ∨ (∃ a, ks = [a] ∧ ((8 ≤ k ∧ k ≤ 19) ∨ k = 29)) ∨ (∃ a b, ks = [a, b] ∧ ((20 ≤ k ∧ k ≤ 28) ∨ (31 ≤ k ∧ k ≤ 34))) ∨ (∃ a b c, ks = [a, b, c] ∧ k = 30) := by
  have o0 : ∀ y ∈ onesL, y.2.2 = 0 → 3 ≤ y.2.1 ∧ y.2.1 ≤ 6 := by decide
  have o1 : ∀ y ∈ onesL, y.2.2 = 1 → 14 ≤ y.2.1 ∧ y.2.1 ≤ 19 := by decide
  have o2 : ∀ y ∈ onesL, y.2.2 = 2 → 31 ≤ y.2.1 ∧ y.2.1 ≤ 34 := by decide
  have s1 : ∀ y ∈ signsL, y.2.2 = 7 → 8 ≤ y.2.1 ∧ y.2.1 ≤ 13 := by decide
  have s2 : ∀ y ∈ signsL, y.2.2 < 7 → 20 ≤ y.2.1 ∧ y.2.1 ≤ 28 := by decide
  cases h with
  | int _ => exact .inl ⟨rfl, by omega, by omega⟩
  | text _ => exact .inl ⟨rfl, by omega, by omega⟩
  | name _ => exact .inl ⟨rfl, by omega, by omega⟩
  | zero h1 h2 => have := o0 _ h1 h2; exact .inl ⟨rfl, by omega, by omega⟩
  | post h1 h2 _ _ => have := s1 _ h1 h2; exact .inr (.inl ⟨_, rfl, by omega⟩)
  | parent => exact .inr (.inl ⟨_, rfl, by omega⟩)
  | not_ => exact .inr (.inl ⟨_, rfl, by omega⟩)
  | one h1 h2 => have := o1 _ h1 h2; exact .inr (.inl ⟨_, rfl, by omega⟩)
  | bin h1 h2 => have := s2 _ h1 h2; exact .inr (.inr (.inl ⟨_, _, rfl, by omega⟩))
  | iff => exact .inr (.inr (.inr ⟨_, _, _, rfl, rfl⟩))
  | loop h1 h2 _ => have := o2 _ h1 h2; exact .inr (.inr (.inl ⟨_, _, rfl, by omega⟩))
theorem deep_one {k : Nat} {s : List Nat} {n : Int} {ks : List Tr} {f : Nat} (h : (Tr.node k s n ks).deep ≤ f + 1) : deepL ks ≤ f := by simp only [Tr.deep] at h; omega
end Go.Proofs.YtidkbodmiegbkaaGreatDoor
namespace Go.Proofs.YtidkbodmiegbkaaGreatDoor
set_option linter.unusedSimpArgs false
set_option linter.unusedVariables false
open Go.RowKit
theorem stands_nds (t : Tr) : Stands (ndsT t 0) t 0 := by
  unfold Stands
  rw [List.drop_zero, List.take_of_length_le (by rw [nds_len]; exact Nat.le_refl _)]
end Go.Proofs.YtidkbodmiegbkaaGreatDoor
namespace Go.Proofs.YtidkbodmiegbkaaGreatDoor
set_option linter.unusedSimpArgs false
set_option linter.unusedVariables false
theorem trS_pos : ∀ t : Tr, 1 ≤ t.size
  | .node k s n ks => by simp only [Tr.size]; omega
theorem places_in : ∀ (ts : List Tr) (q x : Nat), x ∈ placesL ts q → q ≤ x ∧ x < q + sizeL ts
  | [], q, x, h => by cases h
  | t :: ts, q, x, h => by
    have ht := trS_pos t
    simp only [placesL, List.mem_cons] at h
    simp only [sizeL]
    rcases h with rfl | h
    · omega
    · have := places_in ts _ x h
      omega
mutual
theorem stands_kids {l : List ND} : ∀ (t : Tr) (p : Nat), Stands l t p → ∀ i d, p ≤ i → i < p + t.size → l[i]? = some d → ∀ x ∈ d.kids, (i : Int) < x ∧ x < ((p + t.size : Nat) : Int)
  | .node k s n ks, p, h, i, d, h1, h2, hd, x, hx => by
    obtain ⟨e1, e2⟩ := stands_node h
    simp only [Tr.size] at h2 ⊢
    by_cases hi : i = p
    · subst hi
      rw [e1] at hd
      injection hd with hd
      subst hd
      obtain ⟨y, hy, rfl⟩ := List.mem_map.1 hx
      have := places_in ks _ y hy
      omega
    · have := standsL_kids ks (p + 1) e2 i d (by omega) (by omega) hd x hx
      omega
theorem standsL_kids {l : List ND} : ∀ (ts : List Tr) (p : Nat), StandsL l ts p → ∀ i d, p ≤ i → i < p + sizeL ts → l[i]? = some d → ∀ x ∈ d.kids, (i : Int) < x ∧ x < ((p + sizeL ts : Nat) : Int)
  | [], p, h, i, d, h1, h2, hd, x, hx => by simp only [sizeL] at h2; omega
  | t :: ts, p, h, i, d, h1, h2, hd, x, hx => by
    obtain ⟨e1, e2⟩ := standsL_cons h
    simp only [sizeL] at h2 ⊢
    by_cases hi : i < p + t.size
    · have := stands_kids t p e1 i d h1 hi hd x hx
      omega
    · have := standsL_kids ts (p + t.size) e2 i d (by omega) (by omega) hd x hx
      omega
end
theorem places_lt : ∀ (ts : List Tr) (p j j' q q' : Nat), (placesL ts p)[j]? = some q → (placesL ts p)[j']? = some q' → j < j' → q < q'
  | [], p, j, j', q, q', h, _, _ => by cases h
  | t :: ts, p, j, j', q, q', h, h', hj => by
    have ht := trS_pos t
    obtain ⟨m, rfl⟩ : ∃ m, j' = m + 1 := ⟨j' - 1, by omega⟩
    simp only [placesL, List.getElem?_cons_succ] at h'
    cases j with
    | zero =>
      simp only [placesL, List.getElem?_cons_zero, Option.some.injEq] at h
      have := places_in ts _ q' (List.mem_iff_getElem?.2 ⟨m, h'⟩)
      omega
    | succ j =>
      simp only [placesL, List.getElem?_cons_succ] at h
      exact places_lt ts _ j m q q' h h' (by omega)
theorem standsL_before {l : List ND} : ∀ (ts : List Tr) (p j q : Nat), StandsL l ts p → (placesL ts p)[j]? = some q → ∀ i d, p ≤ i → i < q → l[i]? = some d → ∀ x ∈ d.kids, x < (q : Int)
  | [], p, j, q, h, hq, i, d, h1, h2, hd, x, hx => by cases hq
  | t :: ts, p, j, q, h, hq, i, d, h1, h2, hd, x, hx => by
    obtain ⟨e1, e2⟩ := standsL_cons h
    cases j with
    | zero => simp only [placesL, List.getElem?_cons_zero, Option.some.injEq] at hq; omega
    | succ j =>
      simp only [placesL, List.getElem?_cons_succ] at hq
      have hin := places_in ts _ q (List.mem_iff_getElem?.2 ⟨j, hq⟩)
      by_cases hi : i < p + t.size
      · have := stands_kids t p e1 i d h1 hi hd x hx
        omega
      · exact standsL_before ts _ j q e2 hq i d (by omega) h2 hd x hx
end Go.Proofs.YtidkbodmiegbkaaGreatDoor
namespace Go.Proofs.YtidkbodmiegbkaaGreatDoor
set_option linter.unusedSimpArgs false
set_option linter.unusedVariables false
open Go.RowKit
theorem stands_size {l : List ND} {t : Tr} {p : Nat} (h : Stands l t p) : t.size ≤ l.length := by
  unfold Stands at h
  have := congrArg List.length h
  rw [nds_len, List.length_take, List.length_drop] at this
  omega
end Go.Proofs.YtidkbodmiegbkaaGreatDoor
namespace Go.Proofs.YtidkbodmiegbkaaGreatDoor
set_option linter.unusedSimpArgs false
set_option linter.unusedVariables false
open Go.RowKit
theorem Blk.drwN {w : World} {g : Nat} {t : TypeId} {cs : Array Value} (h : Blk w g t cs) (n : Nat) : Blk (w.drewN n) g t cs := h
end Go.Proofs.YtidkbodmiegbkaaGreatDoor
namespace Go.Proofs.YtidkbodmiegbkaaGreatDoor
set_option linter.unusedSimpArgs false
set_option linter.unusedVariables false
open Go.RowKit
theorem grown_trans8 {a b c : World} {row : Option Nat} (h : a.grownBy b row) (k : b.grownBy c row) : a.grownBy c row :=
  ⟨k.os.trans h.os, k.tape.trans h.tape, k.output.trans h.output, Nat.le_trans h.size k.size, fun g hg hne => (k.block g (Nat.lt_of_lt_of_le hg h.size) hne).trans (h.block g hg hne)⟩
theorem grown_of_below {a b : World} (row : Option Nat) (h : Below a.heap.size a b) : a.grownBy b row := ⟨h.os, h.tape, h.output, h.size, fun g hg _ => h.block g hg⟩
theorem cell_grown {a b : World} {row : Option Nat} (h : a.grownBy b row) {p : Addr} {u : Value} (hp : a.cell? p = some u) (hne : some p.block ≠ row) : b.cell? p = some u :=
  (World.cell?_of_block (h.block p.block (cell_lt hp) hne)).trans hp
/-- what a call of the closure comes to -/
def MetE (l : List ND) (Ws : World) (b1 : Nat) (i : Int) (m f : Nat) (e : Ending) (W' : World) : Prop :=
  ∃ o : Option (Nat × Nat), o = (if i = (m : Int) then metN l f m else none) ∧ e = .returned (.int .i64 (match o with | some r => (r.1 : Int) | none => 0)) ∧ Ws.grownBy W' (some b1) ∧ ∀ r, o = some r → Blk W' b1 3 #[.int .i64 (r.2 : Int)]
theorem rmet_no (n : Nat) (a : Option Addr) (c : Nat) (b0 b1 b2 : Nat) (i : Int) (m : Nat) (W : World) (h0 : W.cell? ⟨b0, 0, none⟩ = some (.slice a n c)) (h1 : W.cell? ⟨b1, 0, none⟩ = some (.int .i64 (m : Int))) (hno : i ≠ (m : Int) ∨ (n : Int) ≤ i) :
    Calls Tryz.prog 20 #[.int .i64 i, .pointer (some ⟨b1, 0, none⟩), .pointer (some ⟨b0, 0, none⟩), .pointer (some ⟨b2, 0, none⟩)] W fun e W' => e = .returned (.int .i64 0) ∧ W' = W := by
  by_cases e : i = (m : Int)
  · subst e
    have d1 : decide ((n : Int) ≤ (m : Int)) = true := by simp; omega
    have d2 : n ≤ m := by omega
    clear hno
    go_enter Tryz.func20, Tryz.ntmps20
    go_wp2_with fail
    go_ret
    exact ⟨rfl, rfl⟩
  · have d1 : (i != (m : Int)) = true := by simpa using e
    clear hno e
    go_enter Tryz.func20, Tryz.ntmps20
    go_wp2_with fail
    go_ret
    exact ⟨rfl, rfl⟩
set_option maxRecDepth 100000 in
set_option maxHeartbeats 8000000 in
theorem rmet_any {l : List ND} {v : Value} (w0 Ws : World) (b0 b1 b2 : Nat) (hs : SlR w0 w0.heap.size 4 (ND.Is w0 w0.heap.size) v l) (hok : ∀ d ∈ l, NdOk d) (hn : l.length ≤ 256) (hm : Marks w0) (hp : Pow w0) (hl : Below w0.heap.size w0 Ws) (hb1 : w0.heap.size ≤ b1)
    (h0 : Ws.cell? ⟨b0, 0, none⟩ = some v) (h2 : Ws.cell? ⟨b2, 0, none⟩ = some (.func (.func 20) #[] #[.pointer (some ⟨b1, 0, none⟩), .pointer (some ⟨b0, 0, none⟩), .pointer (some ⟨b2, 0, none⟩)])) (n0 : b0 ≠ b1) (n2 : b2 ≠ b1) :
    ∀ (f m : Nat), l.length - m ≤ f → ∀ (i : Int) (W : World), Ws.grownBy W (some b1) → Blk W b1 3 #[.int .i64 (m : Int)] →
      Calls Tryz.prog 20 #[.int .i64 i, .pointer (some ⟨b1, 0, none⟩), .pointer (some ⟨b0, 0, none⟩), .pointer (some ⟨b2, 0, none⟩)] W (MetE l Ws b1 i m f) := by
  obtain ⟨a, c, rfl⟩ : ∃ a c, v = .slice a l.length c := by obtain ⟨a, c, h, _⟩ := hs.form; exact ⟨a, c, h⟩
  have no : ∀ (f m : Nat) (i : Int) (W : World), Ws.grownBy W (some b1) → Blk W b1 3 #[.int .i64 (m : Int)] → (i ≠ (m : Int) ∨ (l.length : Int) ≤ i) →
      Calls Tryz.prog 20 #[.int .i64 i, .pointer (some ⟨b1, 0, none⟩), .pointer (some ⟨b0, 0, none⟩), .pointer (some ⟨b2, 0, none⟩)] W (MetE l Ws b1 i m f) := by
    intro f m i W hg hB hno
    refine (rmet_no l.length a c b0 b1 b2 i m W (cell_grown hg h0 (by simpa using n0)) (hB.cell (i := 0) rfl) hno).mono ?_
    rintro e W' ⟨rfl, rfl⟩
    refine ⟨none, ?_, rfl, hg, fun r h => by cases h⟩
    by_cases e : i = (m : Int)
    · rw [if_pos e]
      have hlm : l.length ≤ m := by omega
      cases f with
      | zero => rfl
      | succ f => simp only [metN]; rw [List.getElem?_eq_none hlm]
    · rw [if_neg e]
  intro f
  induction f with
  | zero =>
    intro m hmf i W hg hB
    by_cases e : i = (m : Int)
    · exact no 0 m i W hg hB (.inr (by omega))
    · exact no 0 m i W hg hB (.inl e)
  | succ f ih =>
    intro m hmf i W hg hB
    by_cases hno : i ≠ (m : Int) ∨ (l.length : Int) ≤ i
    · exact no (f + 1) m i W hg hB hno
    obtain ⟨rfl, hlt⟩ : i = (m : Int) ∧ m < l.length := by omega
    clear hno no
    have hlW := hl.grown hg hl.size (fun k hk => by injection hk with hk; omega)
    obtain ⟨⟨k, s, nm, ks⟩, hd⟩ := get_some rfl hlt
    have hko := hok _ (List.mem_iff_getElem?.2 ⟨m, hd⟩)
    obtain ⟨b, off, x, rfl, hbB, hxl, ⟨kv, rfl, hks⟩, hx⟩ := (hs.below hlW).at_ hd
    simp only at hks hx
    obtain ⟨ka, kc, rfl, _⟩ := hks.form
    have c0 := hx 0 _ rfl
    have c1 := hx 1 _ rfl
    have c2 := hx 2 _ rfl
    have c3 := hx 3 _ rfl
    simp only [Nat.add_zero] at c0
    obtain ⟨kn, hkn⟩ : ∃ z, ks.length = z := ⟨_, rfl⟩
    have hk63 : kn ≤ 9223372036854775807 := by have := hks.caps; unfold maxLen at this; omega
    rw [hkn] at c3 hks
    have hM : metN l (f + 1) m = if mayE ⟨k, s, nm, ks⟩ = true then (metL (metN l f) ks (m + 1) 0).map fun r => (r.1 + 1, r.2) else none := by simp only [metN]; rw [hd]
    have MY := Lib.hid (p_may k s nm ks ka kn kc hkn.symm hk63 hko.1 hko.2.1 W (hm.below hlW) (hp.below hlW))
    have q0 := cell_grown hg h0 (by simpa using n0)
    have q2 := cell_grown hg h2 (by simpa using n2)
    have q1 : W.cell? ⟨b1, 0, none⟩ = some (.int .i64 (m : Int)) := hB.cell (i := 0) rfl
    have hbne : b ≠ b1 := by omega
    have HMF := Lib.hid hmf
    have HM := Lib.hid hM
    have HKS := Lib.hid (hks)
    have HKN := Lib.hid hkn
    have HG := Lib.hid hg
    have HB := Lib.hid hB
    have HIH := Lib.hid ih
    have HLW := Lib.hid hlW
    have HB1 := Lib.hid hb1
    have HLS := Lib.hid hl
    have HN := Lib.hid (And.intro h2 (And.intro n2 n0))
    have HH0 := Lib.hid h0
    obtain ⟨n, hlen⟩ : ∃ n, l.length = n := ⟨_, rfl⟩
    have HLEN := Lib.hid hlen
    rw [hlen] at hlt hn q0
    have m5 : (m : Int) ≤ 5000 := by omega
    have m0 : (0 : Int) ≤ (m : Int) := Int.natCast_nonneg _
    have d1 : ((m : Int) != (m : Int)) = false := by simp
    have d2 : decide ((n : Int) ≤ (m : Int)) = false := by simp; omega
    have d3 : ¬ n ≤ m := by omega
    have d4 : (m : Int) < (n : Int) := by omega
    have l1 := hB.lt
    clear hok hko hs hm hp hl hd hx hxl hks hkn hM hg hB ih hlW hlen h0 h2 hmf
    obtain ⟨bm, hbm⟩ : ∃ z, mayE ⟨k, s, nm, ks⟩ = z := ⟨_, rfl⟩
    rw [hbm] at MY HM
    clear hbm
    cases bm with
    | false =>
      rw [if_neg (by simp)] at HM
      go_enter Tryz.func20, Tryz.ntmps20
      go_wp2_with (first
        | (go_at_call 21; refine MY.out.mono ?_; rintro e w1 ⟨rfl, b1'⟩; have B1 := Lib.hid b1'; clear b1'))
      go_ret
      exact ⟨none, by rw [if_pos rfl, HM.out], rfl, grown_trans8 HG.out (grown_of_below _ B1.out), fun r h => by cases h⟩
    | true =>
      rw [if_pos rfl] at HM
      go_enter Tryz.func20, Tryz.ntmps20
      go_wp2_with (first
        | (go_at_call 21; refine MY.out.mono ?_; rintro e w1 ⟨rfl, b1'⟩; have B1 := Lib.hid b1'; have p1 : w1.cell? ⟨b1, 0, none⟩ = some (.int .i64 (m : Int)) := (World.cell?_of_block (b1'.block b1 l1)).trans q1; have z1 : w1.frozen? ⟨b1, 0, none⟩ = false := (HB.out.below b1' l1).frozen 0; have p0 : w1.cell? ⟨b0, 0, none⟩ = some (.slice (some ⟨b, off, none⟩) n c) := (World.cell?_of_block (b1'.block b0 (cell_lt q0))).trans q0; have pc : w1.cell? ⟨b, off + m * 4 + 3, none⟩ = some (.slice ka kn kc) := (World.cell?_of_block (b1'.block b (cell_lt c0))).trans c3; have l11 : b1 < w1.heap.size := cell_lt p1; clear b1'))
      generalize hwq : World.setCell w1 _ _ = W2
      have GR2 : Hid (Ws.grownBy W2 (some b1)) := Lib.hid (by rw [← hwq]; exact grown_trans8 (grown_trans8 HG.out (grown_of_below _ B1.out)) ⟨rfl, rfl, rfl, by simp, fun g hg hne => Below.heap_setCell w1 _ _ g (by intro e; exact hne (by rw [e]))⟩)
      have BK2 : Hid (Blk W2 b1 3 #[.int .i64 ((m + 1 : Nat) : Int)]) := Lib.hid (by rw [← hwq, show ((m + 1 : Nat) : Int) = (m : Int) + 1 by omega]; exact (HB.out.below B1.out l1).set_ 0 _)
      clear hwq p1 z1 p0 pc l11 c0 c1 c2 c3 q0 q1 q2 MY B1
      obtain ⟨R, hR⟩ : ∃ R, metL (metN l f) ks (m + 1) 0 = R := ⟨_, rfl⟩
      rw [hR] at HM
      have HR := Lib.hid hR
      clear hR
      go_loopw [6, 8, 9, 38] (fun dv _ _ iv wr => ∃ (j dp mk : Nat), j ≤ kn ∧ dv = .int .i64 (dp : Int) ∧ iv = .int .i64 (j : Int) ∧ Hid (dp ≤ 256 ∧ m + 1 ≤ mk ∧ mk ≤ l.length) ∧ Hid (Ws.grownBy wr (some b1)) ∧ Hid (Blk wr b1 3 #[.int .i64 (mk : Int)]) ∧ Hid (metL (metN l f) (ks.drop j) mk dp = R)) (fun _ _ _ iv _ => kn - (intOf iv).toNat)
      case atStart => exact ⟨0, 0, m + 1, Nat.zero_le _, rfl, rfl, Lib.hid ⟨by omega, Nat.le_refl _, by rw [HLEN.out]; omega⟩, GR2, BK2, Lib.hid (by rw [List.drop_zero]; exact HR.out)⟩
      case round =>
        clear GR2 BK2
        obtain ⟨j, dp, mk, hj, rfl, rfl, hbd, hg, hB, hrest⟩ := hrel
        have j0 : (0 : Int) ≤ (j : Int) := Int.natCast_nonneg _
        have dp5 : (dp : Int) ≤ 5000 := by have := hbd.out; omega
        have dp0 : (0 : Int) ≤ (dp : Int) := Int.natCast_nonneg _
        by_cases hlt2 : j < kn
        · obtain ⟨kk, hkk⟩ := get_some HKN.out hlt2
          obtain ⟨bb, o1, x1, rfl, hbb, _, rfl, hx1⟩ := HKS.out.at_ hkk
          have e1 : w0.cell? ⟨bb, o1 + j, none⟩ = some (.int .i64 kk) := by have := hx1 0 _ rfl; simpa using this
          have k1 : wr.cell? ⟨bb, o1 + j, none⟩ = some (.int .i64 kk) := cell_grown hg.out ((World.cell?_of_block (HLS.out.block bb hbb)).trans e1) (by intro e; injection e with e; have := HB1.out; have e' : bb = b1 := e; omega)
          have q2 := cell_grown hg.out HN.out.1 (by have := HN.out.2.1; simpa using this)
          have hdr : ks.drop j = kk :: ks.drop (j + 1) := by
            have hjl := (List.getElem?_eq_some_iff.1 hkk).1
            rw [List.drop_eq_getElem_cons hjl, (List.getElem?_eq_some_iff.1 hkk).2]
          have hrest2 := hrest.out
          rw [hdr] at hrest2
          simp only [metL] at hrest2
          have HRR := Lib.hid hrest2
          have CC := Lib.hid (HIH.out mk (by have := HMF.out; have := hbd.out; omega) kk wr hg.out hB.out)
          clear hkk hx1 e1 hdr hrest2 hrest
          go_wp2_with fail
          refine CC.out.mono ?_
          rintro e w3 ⟨o, ho, rfl, hg3, hB3⟩
          have HG3 := Lib.hid hg3
          have HB3 := Lib.hid hB3
          clear hg3 hB3 k1 q2 CC
          cases o with
          | none =>
            have hR0 : R = none := by
              have h9 := HRR.out
              by_cases e : kk = (mk : Int)
              · rw [if_pos e] at h9 ho
                rw [← ho] at h9
                exact h9.symm
              · rw [if_neg e] at h9
                exact h9.symm
            subst hR0
            clear ho
            go_wp2_with fail
            go_ret
            exact ⟨none, by rw [if_pos rfl, HM.out]; rfl, rfl, HG3.out, fun r h => by cases h⟩
          | some r =>
            obtain ⟨rd, rm⟩ := r
            have hkm : kk = (mk : Int) := by
              by_cases e : kk = (mk : Int)
              · exact e
              · rw [if_neg e] at ho; cases ho
            rw [if_pos hkm] at ho
            obtain ⟨r1, r2, r3, r4⟩ := metN_in l f mk (rd, rm) ho.symm
            simp only at r1 r2 r3 r4
            have hnew : metL (metN l f) (ks.drop (j + 1)) rm (max dp rd) = R := by
              have h9 := HRR.out
              rw [if_pos hkm, ← ho] at h9
              exact h9
            have HNEW := Lib.hid hnew
            have rd0 : ((rd : Int) == 0) = false := by simp; omega
            have rd1 : ¬ (rd : Int) = 0 := by omega
            have rd5 : (rd : Int) ≤ 5000 := by have := HLEN.out; omega
            have R256 : Hid (rd ≤ 256 ∧ m + 1 ≤ rm ∧ rm ≤ l.length) := Lib.hid ⟨by have := HLEN.out; omega, by have := hbd.out; omega, r2⟩
            have HDB := hbd
            clear ho hkm hnew r1 r2 r3 r4 hbd hB hg
            go_wp2_with fail
            go_roundw
            case rel =>
              refine ⟨j + 1, max dp rd, rm, by omega, ?_, by go_num, Lib.hid ⟨by have := HDB.out; have := R256.out; omega, R256.out.2⟩, HG3, Lib.hid (HB3.out _ rfl), HNEW⟩
              congr 1
              rcases Nat.le_total dp rd with h | h
              · rw [Nat.max_eq_right h]; first | omega | exact Int.max_eq_right (by omega)
              · rw [Nat.max_eq_left h]; first | omega | exact Int.max_eq_left (by omega)
            case measure => simp [intOf]; omega
        · obtain rfl : j = kn := by omega
          have hR0 : R = some (dp, mk) := by
            have h9 := hrest.out
            rw [List.drop_of_length_le (by rw [HKN.out]; exact Nat.le_refl _)] at h9
            simp only [metL] at h9
            exact h9.symm
          subst hR0
          have djj : decide (j < j) = false := by simp
          have HBk := hB
          have HGk := hg
          clear hlt2 hrest hB hg
          go_wp2_with fail
          go_ret
          exact ⟨some (dp + 1, mk), by rw [if_pos rfl, HM.out]; rfl, by show Ending.returned _ = _; rfl, HGk.out, fun r h => by injection h with h; subst h; exact HBk.out⟩
set_option maxRecDepth 100000 in
set_option maxHeartbeats 8000000 in
theorem right_e {l : List ND} {v : Value} (w w0 : World) (hs : SlR w0 w0.heap.size 4 (ND.Is w0 w0.heap.size) v l) (hok : ∀ d ∈ l, NdOk d) (hm : Marks w0) (hp : Pow w0) (hw : Below w0.heap.size w0 w) :
    Calls Tryz.prog 11 #[.agg #[v]] w fun e w' => e = .returned (.int .i64 (rightE l : Int)) ∧ Below w.heap.size w w' := by
  have hmf : ∀ (fn : Fn) (first cap : Array Value) (w : World), (Instr.makeFunc fn first cap).run Tryz.prog w = .ok (.func fn first cap) w := fun _ _ _ _ => rfl
  obtain ⟨a, c, rfl⟩ : ∃ a c, v = .slice a l.length c := by obtain ⟨a, c, h, _⟩ := hs.form; exact ⟨a, c, h⟩
  have hn63 : l.length ≤ 9223372036854775807 := by have := hs.caps; unfold maxLen at this; omega
  have hsz := hw.size
  by_cases hbig : 256 < l.length
  · have hv : rightE l = 4 := by unfold rightE; rw [if_pos hbig]
    rw [hv]
    have B1 : Hid (Below w.heap.size w (w.alloc (.cells #[.slice a l.length c] 24))) := Lib.hid ((Below.refl _ _).alloc (Nat.le_refl _) _)
    obtain ⟨n, hlen⟩ : ∃ n, l.length = n := ⟨_, rfl⟩
    rw [hlen] at hbig hn63 B1 ⊢
    have d1 : decide ((256 : Int) < (n : Int)) = true := by simp; omega
    have d2 : decide (256 < n) = true := by simpa using hbig
    clear hs hok hm hp hw hlen hv hbig
    go_enter Tryz.func11, Tryz.ntmps11
    go_wp2_with fail
    go_ret
    exact ⟨rfl, B1.out⟩
  · have hle : l.length ≤ 256 := by omega
    have HM := Lib.hid (fun Ws hl hb1 h0 h2 n0 n2 (hB : Blk Ws (w.heap.size + 1) 3 #[.int .i64 0]) => rmet_any w0 Ws w.heap.size (w.heap.size + 1) (w.heap.size + 1 + 1) hs hok hle hm hp hl hb1 h0 h2 n0 n2 l.length 0 (by omega) 0 Ws (World.grownBy.refl _ _) hB)
    have HW := Lib.hid hw
    have hv : rightE l = match metN l l.length 0 with | none => 80 | some r => if r.2 ≠ l.length then 80 else if 32 < r.1 then 4 else 0 := by unfold rightE; rw [if_neg hbig]; rfl
    have HV := Lib.hid hv
    have HIN := Lib.hid (metN_in l l.length 0)
    have HLE := Lib.hid hle
    have d1 : decide ((256 : Int) < (l.length : Int)) = false := by simp; omega
    have d2 : decide (256 < l.length) = false := by simpa using hbig
    clear hs hok hm hp hw hv hbig hle
    go_enter Tryz.func11, Tryz.ntmps11
    go_wp2_with (first
      | (go_at_call 20
         refine (HM.out _ (((HW.out.alloc HW.out.size _).alloc (below2 HW.out.size) _).alloc (below3 HW.out.size) _) (by omega) ((((Blk.new w _ _).alloc _).alloc _).cell (i := 0) rfl) ((Blk.new_ (by simp) _ _).cell (i := 0) rfl) (by omega) (by omega) ((Blk.new_ (by simp) _ _).alloc _)).mono ?_
         rintro e w1 ⟨o, ho, rfl, hg, hm'⟩
         have HB : Hid (Below w.heap.size w w1) := Lib.hid (((((Below.refl _ _).alloc (Nat.le_refl _) _).alloc (below2 (Nat.le_refl _)) _).alloc (below3 (Nat.le_refl _)) _).grown hg (by simp; omega) (fun k hk => by injection hk with hk; omega))
         have hc : w1.cell? ⟨w.heap.size, 0, none⟩ = some (.slice a l.length c) := cell_grown hg ((((Blk.new w _ _).alloc _).alloc _).cell (i := 0) rfl) (by simp)
         have ho' : o = metN l l.length 0 := by rw [ho]; exact if_pos (by simp)
         have hd : (o = none ∧ rightE l = 80) ∨ (∃ rd rm : Nat, o = some (rd, rm) ∧ rightE l = 80 ∧ ((rd : Int) == 0) = false ∧ ¬ (rd : Int) = 0 ∧ ((rm : Int) != (l.length : Int)) = true ∧ w1.cell? ⟨w.heap.size + 1, 0, none⟩ = some (.int .i64 (rm : Int))) ∨
             (∃ rd : Nat, o = some (rd, l.length) ∧ rightE l = 4 ∧ ((rd : Int) == 0) = false ∧ ¬ (rd : Int) = 0 ∧ decide (32 < rd) = true ∧ decide ((32 : Int) < (rd : Int)) = true ∧ w1.cell? ⟨w.heap.size + 1, 0, none⟩ = some (.int .i64 (l.length : Int))) ∨
             (∃ rd : Nat, o = some (rd, l.length) ∧ rightE l = 0 ∧ ((rd : Int) == 0) = false ∧ ¬ (rd : Int) = 0 ∧ decide (32 < rd) = false ∧ decide ((32 : Int) < (rd : Int)) = false ∧ w1.cell? ⟨w.heap.size + 1, 0, none⟩ = some (.int .i64 (l.length : Int))) := by
           rw [HV.out, ← ho']
           rcases o with _ | ⟨rd, rm⟩
           · exact .inl ⟨rfl, rfl⟩
           · obtain ⟨k1, k2, k3, k4⟩ := HIN.out _ ho'.symm
             simp only at k1 k2 k3 k4
             have q1 := (hm' _ rfl).cell (i := 0) rfl
             have r0 : ((rd : Int) == 0) = false := by simp; omega
             have r1 : ¬ (rd : Int) = 0 := by omega
             by_cases h1 : rm = l.length
             · subst h1
               by_cases h2 : 32 < rd
               · exact .inr (.inr (.inl ⟨rd, rfl, by simp [h2], r0, r1, by simpa using h2, by simp; omega, q1⟩))
               · exact .inr (.inr (.inr ⟨rd, rfl, by simp [h2], r0, r1, by simpa using h2, by simp; omega, q1⟩))
             · exact .inr (.inl ⟨rd, rm, rfl, by simp [h1], r0, r1, by rw [bne_iff_ne]; omega, q1⟩)
         clear hg hm' ho ho'
         rcases hd with ⟨rfl, hv⟩ | ⟨rd, rm, rfl, hv, r0, r1, e1, q1⟩ | ⟨rd, rfl, hv, r0, r1, e1, e2, q1⟩ | ⟨rd, rfl, hv, r0, r1, e1, e2, q1⟩))
    all_goals
      rw [hv]
      go_ret
      exact ⟨rfl, HB.out⟩
end Go.Proofs.YtidkbodmiegbkaaGreatDoor
namespace Go.Proofs.YtidkbodmiegbkaaGreatDoor
set_option linter.unusedSimpArgs false
set_option linter.unusedVariables false
mutual
/-- the tree below a node, by its place in the list -/
def subT : Tr → Nat → Option Tr
  | .node k s n ks, 0 => some (.node k s n ks)
  | .node _ _ _ ks, i + 1 => subL ks i
def subL : List Tr → Nat → Option Tr
  | [], _ => none
  | t :: ts, i => if i < t.size then subT t i else subL ts (i - t.size)
end
mutual
theorem sub_some : ∀ (t : Tr) (i : Nat), i < t.size → ∃ u, subT t i = some u ∧ i + u.size ≤ t.size ∧ u.deep ≤ t.deep ∧ (t.Good → u.Good) ∧ (∀ p, ((t.flat p).drop i).take u.size = u.flat (p + i)) ∧ ∀ j, j < u.size → subT u j = subT t (i + j)
  | .node k s n ks, 0, _ => ⟨_, rfl, by omega, Nat.le_refl _, id, fun p => by rw [List.drop_zero, ← trFlat_len (.node k s n ks) p, List.take_length]; rfl, fun j _ => by rw [Nat.zero_add]⟩
  | .node k s n ks, i + 1, h => by
    simp only [Tr.size] at h
    obtain ⟨u, h1, h2, h3, h4, h5, h6⟩ := subL_some ks i (by omega)
    refine ⟨u, h1, by simp only [Tr.size]; omega, by simp only [Tr.deep]; omega, fun hg => h4 hg.2, fun p => ?_, fun j hj => ?_⟩
    · simp only [Tr.flat, List.drop_succ_cons]
      rw [h5, Nat.add_assoc, Nat.add_comm 1 i]
    · rw [h6 j hj, show i + 1 + j = (i + j) + 1 by omega]
      rfl
theorem subL_some : ∀ (ts : List Tr) (i : Nat), i < sizeL ts → ∃ u, subL ts i = some u ∧ i + u.size ≤ sizeL ts ∧ u.deep ≤ deepL ts ∧ (GoodL ts → u.Good) ∧ (∀ p, ((flatL ts p).drop i).take u.size = u.flat (p + i)) ∧ ∀ j, j < u.size → subT u j = subL ts (i + j)
  | [], i, h => by simp [sizeL] at h
  | t :: ts, i, h => by
    simp only [sizeL] at h
    by_cases hi : i < t.size
    · obtain ⟨u, h1, h2, h3, h4, h5, h6⟩ := sub_some t i hi
      refine ⟨u, by simp only [subL]; rw [if_pos hi]; exact h1, by simp only [sizeL]; omega, by simp only [deepL]; omega, fun hg => h4 hg.1, fun p => ?_, fun j hj => ?_⟩
      · simp only [flatL]
        rw [List.drop_append_of_le_length (by rw [trFlat_len]; omega), List.take_append_of_le_length (by rw [List.length_drop, trFlat_len]; omega)]
        exact h5 p
      · rw [h6 j hj]
        simp only [subL]
        rw [if_pos (by omega)]
    · obtain ⟨u, h1, h2, h3, h4, h5, h6⟩ := subL_some ts (i - t.size) (by omega)
      refine ⟨u, by simp only [subL]; rw [if_neg hi]; exact h1, by simp only [sizeL]; omega, by simp only [deepL]; omega, fun hg => h4 hg.2, fun p => ?_, fun j hj => ?_⟩
      · simp only [flatL]
        rw [List.drop_append, List.drop_of_length_le (by rw [trFlat_len]; omega), List.nil_append, trFlat_len, h5]
        congr 1
        omega
      · rw [h6 j hj]
        simp only [subL]
        rw [if_neg (by omega), show i + j - t.size = i - t.size + j by omega]
end
/-- a node's parts' places moved back -/
def backN (a : Nat) (d : EN) : EN := ⟨d.kind, d.text, d.num, d.kids.map (· - a)⟩
mutual
theorem flat_back : ∀ (t : Tr) (p a : Nat), (t.flat (p + a)).map (backN a) = t.flat p
  | .node k s n ks, p, a => by
    simp only [Tr.flat, List.map_cons]
    rw [show p + a + 1 = p + 1 + a by omega, flatL_back ks (p + 1) a]
    show EN.mk k s n ((placesL ks (p + 1 + a)).map (· - a)) :: _ = _
    rw [placesL_back ks (p + 1) a]
theorem flatL_back : ∀ (ts : List Tr) (p a : Nat), (flatL ts (p + a)).map (backN a) = flatL ts p
  | [], p, a => by simp [flatL]
  | t :: ts, p, a => by
    simp only [flatL, List.map_append]
    rw [flat_back t p a, show p + a + t.size = p + t.size + a by omega, flatL_back ts (p + t.size) a]
theorem placesL_back : ∀ (ts : List Tr) (p a : Nat), (placesL ts (p + a)).map (· - a) = placesL ts p
  | [], p, a => by simp [placesL]
  | t :: ts, p, a => by
    simp only [placesL, List.map_cons]
    rw [Nat.add_sub_cancel, show p + a + t.size = p + t.size + a by omega, placesL_back ts (p + t.size) a]
end
/-- the place behind the last part told of so far -/
def endK (ks : List Nat) (e : Nat) : Nat := ks.foldl (fun e k => max e (k + 1)) e
def endL (l : List EN) (e : Nat) : Nat := l.foldl (fun e d => endK d.kids e) e
theorem endK_snoc (ks : List Nat) (k e : Nat) : endK (ks ++ [k]) e = max (endK ks e) (k + 1) := by unfold endK; rw [List.foldl_append]; rfl
theorem endL_snoc (l : List EN) (d : EN) (e : Nat) : endL (l ++ [d]) e = endK d.kids (endL l e) := by unfold endL; rw [List.foldl_append]; rfl
theorem endK_ge : ∀ (ks : List Nat) (e : Nat), e ≤ endK ks e
  | [], e => Nat.le_refl _
  | k :: ks, e => Nat.le_trans (Nat.le_max_left e (k + 1)) (endK_ge ks (max e (k + 1)))
theorem endK_mem : ∀ (ks : List Nat) (e k : Nat), k ∈ ks → k < endK ks e
  | k0 :: ks, e, k, h => by
    rcases List.mem_cons.1 h with rfl | h
    · exact Nat.lt_of_lt_of_le (by omega) (endK_ge ks (max e (k + 1)))
    · exact endK_mem ks (max e (k0 + 1)) k h
theorem endK_le : ∀ (ks : List Nat) (e N : Nat), e ≤ N → (∀ k ∈ ks, k < N) → endK ks e ≤ N
  | [], e, N, h, _ => h
  | k :: ks, e, N, h, hk => endK_le ks (max e (k + 1)) N (by have := hk k (by simp); omega) (fun x hx => hk x (by simp [hx]))
theorem endL_ge : ∀ (l : List EN) (e : Nat), e ≤ endL l e
  | [], e => Nat.le_refl _
  | d :: l, e => Nat.le_trans (endK_ge d.kids e) (endL_ge l (endK d.kids e))
theorem endL_le : ∀ (l : List EN) (e N : Nat), e ≤ N → (∀ d ∈ l, ∀ k ∈ d.kids, k < N) → endL l e ≤ N
  | [], e, N, h, _ => h
  | d :: l, e, N, h, hk => endL_le l (endK d.kids e) N (endK_le d.kids e N h (hk d (by simp))) (fun x hx => hk x (by simp [hx]))
mutual
theorem end_more : ∀ (t : Tr) (p e j : Nat), p < e → j < t.size → p + j < endL ((t.flat p).take j) e
  | .node k s n ks, p, e, 0, h, _ => by rw [List.take_zero]; exact h
  | .node k s n ks, p, e, j + 1, h, hj => by
    simp only [Tr.size] at hj
    simp only [Tr.flat, List.take_succ_cons]
    have := endL_more ks (p + 1) (endK (placesL ks (p + 1)) e) j (fun x hx => endK_mem _ _ _ hx) (by omega)
    show p + (j + 1) < endL ((flatL ks (p + 1)).take j) (endK (placesL ks (p + 1)) e)
    omega
theorem endL_more : ∀ (ts : List Tr) (p e j : Nat), (∀ x ∈ placesL ts p, x < e) → j < sizeL ts → p + j < endL ((flatL ts p).take j) e
  | [], p, e, j, _, h => by simp [sizeL] at h
  | t :: ts, p, e, j, hp, hj => by
    simp only [sizeL] at hj
    simp only [placesL] at hp
    simp only [flatL]
    by_cases h : j < t.size
    · rw [List.take_append_of_le_length (by rw [trFlat_len]; omega)]
      exact end_more t p e j (hp p (by simp)) h
    · rw [List.take_append, List.take_of_length_le (by rw [trFlat_len]; omega), trFlat_len]
      have := endL_more ts (p + t.size) (endL (t.flat p) e) (j - t.size) (fun x hx => Nat.lt_of_lt_of_le (hp x (by simp [hx])) (endL_ge _ _)) (by omega)
      unfold endL at this ⊢
      rw [List.foldl_append]
      omega
end
theorem places_in8 : ∀ (ts : List Tr) (p x : Nat), x ∈ placesL ts p → p ≤ x ∧ x < p + sizeL ts
  | t :: ts, p, x, h => by
    simp only [placesL] at h
    simp only [sizeL]
    have := size_pos t
    rcases List.mem_cons.1 h with rfl | h
    · omega
    · have := places_in8 ts (p + t.size) x h; omega
mutual
theorem kids_in : ∀ (t : Tr) (p : Nat) (d : EN), d ∈ t.flat p → ∀ k ∈ d.kids, p < k ∧ k < p + t.size
  | .node kd s n ks, p, d, hd, k, hk => by
    simp only [Tr.flat] at hd
    simp only [Tr.size]
    rcases List.mem_cons.1 hd with rfl | hd
    · have := places_in8 ks (p + 1) k hk; omega
    · have := kidsL_in ks (p + 1) d hd k hk; omega
theorem kidsL_in : ∀ (ts : List Tr) (p : Nat) (d : EN), d ∈ flatL ts p → ∀ k ∈ d.kids, p ≤ k ∧ k < p + sizeL ts
  | [], p, d, hd, _, _ => by simp [flatL] at hd
  | t :: ts, p, d, hd, k, hk => by
    simp only [flatL, List.mem_append] at hd
    simp only [sizeL]
    rcases hd with hd | hd
    · have := kids_in t p d hd k hk; omega
    · have := kidsL_in ts (p + t.size) d hd k hk; omega
end
mutual
theorem kids_few : ∀ (t : Tr) (p : Nat) (d : EN), d ∈ t.flat p → d.kids.length ≤ t.size
  | .node kd s n ks, p, d, hd => by
    simp only [Tr.flat] at hd
    simp only [Tr.size]
    rcases List.mem_cons.1 hd with rfl | hd
    · have := len_le_size ks; simp only [places_len]; omega
    · have := kidsL_few ks (p + 1) d hd; omega
theorem kidsL_few : ∀ (ts : List Tr) (p : Nat) (d : EN), d ∈ flatL ts p → d.kids.length ≤ sizeL ts
  | [], p, d, hd => by simp [flatL] at hd
  | t :: ts, p, d, hd => by
    simp only [flatL, List.mem_append] at hd
    simp only [sizeL]
    rcases hd with hd | hd
    · have := kids_few t p d hd; omega
    · have := kidsL_few ts (p + t.size) d hd; omega
end
theorem end_part (t : Tr) (p j : Nat) : endL ((t.flat p).take j) (p + 1) ≤ p + t.size := endL_le _ _ _ (by have := size_pos t; omega) (fun d hd k hk => (kids_in t p d (List.mem_of_mem_take hd) k hk).2)
/-- the list of a tree has at a place the list of the tree below it -/
theorem sub_get {t u : Tr} {a : Nat} (h : ((t.flat 0).drop a).take u.size = u.flat (0 + a)) {j : Nat} {d : EN} (hd : (u.flat a)[j]? = some d) : (ndsT t 0)[a + j]? = some d.nd := by
  rw [Nat.zero_add] at h
  have hj : j < u.size := by rw [← trFlat_len u a]; exact (List.getElem?_eq_some_iff.1 hd).1
  rw [← h, List.getElem?_take_of_lt hj, List.getElem?_drop] at hd
  unfold ndsT
  rw [List.getElem?_map, hd]
  rfl
end Go.Proofs.YtidkbodmiegbkaaGreatDoor
namespace Go.Proofs.YtidkbodmiegbkaaGreatDoor
set_option linter.unusedSimpArgs false
set_option linter.unusedVariables false
open Go.RowKit
section
variable {X X' : World} {B : Nat} {v v' : Value} {es : List (EN × Value)}
/-- what is not written stays -/
theorem EL.below (h : EL X B v es) (hb : Below X.heap.size X X') : EL X' B v es :=
  ⟨h.main.stay (fun b _ hl => hb.block b hl), fun i p hp => (h.kids i p hp).stay (fun b _ hl => hb.block b hl), h.apart⟩
theorem EL.setLow (h : EL X B v es) {p : Addr} (hp : p.block < B) (u : Value) : EL (X.setCell p u) B v es :=
  ⟨h.main.setFar hp u, fun i q hq => (h.kids i q hq).setFar hp u, h.apart⟩
/-- a node more, with a row of its own -/
theorem EL.push2 (h : EL X B v es) {e : EN} {kv : Value} (hk : Own1 X B 3 1 IsNat kv e.kids) (hap : ∀ (i : Nat) (p : EN × Value) (b : Nat), es[i]? = some p → p.2.ownBlock = some b → kv.ownBlock ≠ some b) (hm : Own1 X' B 40 4 IsEN v' (es ++ [(e, kv)])) (hg : X.grownBy X' v.ownBlock) : EL X' B v' (es ++ [(e, kv)]) := by
  have key : ∀ (i : Nat) (p : EN × Value), (es ++ [(e, kv)])[i]? = some p → (i < es.length ∧ es[i]? = some p) ∨ (i = es.length ∧ p = (e, kv)) := by
    intro i p hp
    rcases Nat.lt_or_ge i es.length with hl | hl
    · rw [List.getElem?_append_left hl] at hp; exact .inl ⟨hl, hp⟩
    · rw [List.getElem?_append_right hl] at hp
      have h0 : i - es.length = 0 := by
        rcases Nat.eq_zero_or_pos (i - es.length) with h0 | h0
        · exact h0
        · rw [List.getElem?_eq_none (by simp; omega)] at hp; cases hp
      rw [h0] at hp
      simp at hp
      exact .inr ⟨by omega, hp.symm⟩
  refine ⟨hm, fun i p hp => ?_, fun i j p p' b hij hi hj hb => ?_⟩
  · rcases key i p hp with ⟨_, h1⟩ | ⟨_, rfl⟩
    · exact (h.kids i p h1).kept1 h.main (by decide) hg
    · exact hk.kept1 h.main (by decide) hg
  · rcases key i p hi with ⟨_, h1⟩ | ⟨e1, rfl⟩
    · rcases key j p' hj with ⟨_, h2⟩ | ⟨_, rfl⟩
      · exact h.apart i j p p' b hij h1 h2 hb
      · exact hap i p b h1 hb
    · rcases key j p' hj with ⟨_, h2⟩ | ⟨e2, rfl⟩
      · intro e'
        exact hap j p' b h2 e' hb
      · omega
end
theorem nd_kids {d : EN} : d.nd.kids = d.kids.map (fun n : Nat => (n : Int)) := rfl
/-- what Part comes to -/
def PartIs (w : World) (es : List EN) (c : Nat) (e : Ending) (w' : World) : Prop :=
  ∃ v, e = .returned (.tuple #[.agg #[v], .int .i64 (c : Int)]) ∧ SlR w' w'.heap.size 4 (ENode.Is w' w'.heap.size) v es ∧ Below w.heap.size w w'
/-- what Part comes to, with rows of the call's own -/
def PartO (w : World) (es : List EN) (c : Nat) (e : Ending) (w' : World) : Prop :=
  ∃ v ps, e = .returned (.tuple #[.agg #[v], .int .i64 (c : Int)]) ∧ EL w' w.heap.size v ps ∧ ps.map (·.1) = es ∧ Below w.heap.size w w'
theorem PartO.is {w w' : World} {es : List EN} {c : Nat} {e : Ending} (h : PartO w es c e w') : PartIs w es c e w' := by
  obtain ⟨v, ps, rfl, h1, h2, h3⟩ := h
  exact ⟨v, rfl, h2 ▸ h1.read, h3⟩
theorem EL.mono {X : World} {B B' : Nat} {v : Value} {es : List (EN × Value)} (h : EL X B v es) (hb : B' ≤ B) : EL X B' v es :=
  ⟨h.main.mono hb, fun i p hp => (h.kids i p hp).mono hb, h.apart⟩
set_option maxRecDepth 100000 in
set_option maxHeartbeats 8000000 in
/-- no expression, or no node of it -/
theorem part_none {l : List ND} {v : Value} (w w0 : World) (hs : SlR w0 w0.heap.size 4 (ND.Is w0 w0.heap.size) v l) (hok : ∀ d ∈ l, NdOk d) (hm : Marks w0) (hp : Pow w0) (hw : Below w0.heap.size w0 w) (at_ : Int) (r : Nat) (hr : (rightE l ≠ 0 ∧ r = rightE l) ∨ (rightE l = 0 ∧ (at_ < 0 ∨ (l.length : Int) ≤ at_) ∧ r = 2)) :
    Calls Tryz.prog 14 #[.agg #[v], .int .i64 at_] w (PartO w [] r) := by
  obtain ⟨a, c, rfl⟩ : ∃ a c, v = .slice a l.length c := by obtain ⟨a, c, h, _⟩ := hs.form; exact ⟨a, c, h⟩
  have hn63 : l.length ≤ 9223372036854775807 := by have := hs.caps; unfold maxLen at this; omega
  have RT := Lib.hid (fun Y (hY : Below w.heap.size w Y) => right_e Y w0 hs hok hm hp (hw.trans (hY.mono hw.size)))
  have B0 : Hid (Below w.heap.size w ((w.alloc (.cells #[.slice a l.length c] 24)).alloc (.cells #[.slice none 0 0] 24))) := Lib.hid (((Below.refl _ _).alloc (Nat.le_refl _) _).alloc (by rw [World.size_alloc]; omega) _)
  have K0 : Hid (Blk ((w.alloc (.cells #[.slice a l.length c] 24)).alloc (.cells #[.slice none 0 0] 24)) w.heap.size 24 #[.slice a l.length c]) := Lib.hid ((Blk.new _ _ _).alloc _)
  have R0 : Hid (Blk ((w.alloc (.cells #[.slice a l.length c] 24)).alloc (.cells #[.slice none 0 0] 24)) (w.heap.size + 1) 24 #[.slice none 0 0]) := Lib.hid (Blk.new_ (by rw [World.size_alloc]) _ _)
  obtain ⟨rc, hrc⟩ : ∃ z, rightE l = z := ⟨_, rfl⟩
  rw [hrc] at RT hr
  obtain ⟨n, hn⟩ : ∃ n, l.length = n := ⟨_, rfl⟩
  rw [hn] at hn63 B0 K0 R0 RT hr ⊢
  clear hs hok hm hp hw hrc hn
  have fin : ∀ (w9 : World) (rr : Nat), Below w.heap.size w w9 → PartO w [] rr (.returned (.tuple #[.agg #[.slice none 0 0], .int .i64 (rr : Int)])) w9 := fun w9 rr h => ⟨_, [], rfl, EL.nil _ _, rfl, h⟩
  rcases hr with ⟨hne, rfl⟩ | ⟨h0, hat, rfl⟩
  · have e1 : ((r : Int) != 0) = true := by simpa using hne
    clear hne
    go_enter Tryz.func14, Tryz.ntmps14
    go_wp2_with (first
      | (go_at_call 11; refine (RT.out _ B0.out).mono ?_; rintro e w1 ⟨rfl, b1⟩; have B1 := Lib.hid (B0.out.trans (b1.mono B0.out.size)); have KQ := Lib.hid (K0.out.below b1 K0.out.lt); have KR := Lib.hid (R0.out.below b1 R0.out.lt); have c1 : w1.cell? ⟨w.heap.size, 0, none⟩ = some (.slice a n c) := KQ.out.cell rfl; have r1 : w1.cell? ⟨w.heap.size + 1, 0, none⟩ = some (.slice none 0 0) := KR.out.cell rfl; have z1 := KR.out.frozen 0; have l1 := KR.out.lt; have l0 := KQ.out.lt; clear b1))
    have key : ∀ W : World, W.cell? ⟨w.heap.size + 1, 0, none⟩ = some (.slice none 0 0) → True := fun _ _ => trivial
    generalize hW9 : World.setCell w1 _ _ = W9
    have r9 : W9.cell? ⟨w.heap.size + 1, 0, none⟩ = some (.slice none 0 0) := by rw [← hW9]; exact (KR.out.set_ 0 _).cell rfl
    have b9 : Below w.heap.size w W9 := by rw [← hW9]; exact B1.out.setCell (p := ⟨w.heap.size + 1, 0, none⟩) (Nat.le_succ _) _
    refine bodyPost_ret (v := .tuple #[.agg #[.slice none 0 0], .int .i64 (r : Int)]) (by simp [results, Tryz.results14, go_sem, r9]) rfl ?_
    exact fin _ _ b9
  · subst h0
    have fin2 := fun w9 h => fin w9 2 h
    clear fin
    by_cases h1 : at_ < 0
    · have d1 : decide (at_ < 0) = true := by simpa using h1
      clear hat h1
      go_enter Tryz.func14, Tryz.ntmps14
      go_wp2_with (first
        | (go_at_call 11; refine (RT.out _ B0.out).mono ?_; rintro e w1 ⟨rfl, b1⟩; have B1 := Lib.hid (B0.out.trans (b1.mono B0.out.size)); have KQ := Lib.hid (K0.out.below b1 K0.out.lt); have KR := Lib.hid (R0.out.below b1 R0.out.lt); have c1 : w1.cell? ⟨w.heap.size, 0, none⟩ = some (.slice a n c) := KQ.out.cell rfl; have r1 : w1.cell? ⟨w.heap.size + 1, 0, none⟩ = some (.slice none 0 0) := KR.out.cell rfl; have z1 := KR.out.frozen 0; have l1 := KR.out.lt; have l0 := KQ.out.lt; clear b1))
      generalize hW9 : World.setCell w1 _ _ = W9
      have r9 : W9.cell? ⟨w.heap.size + 1, 0, none⟩ = some (.slice none 0 0) := by rw [← hW9]; exact (KR.out.set_ 0 _).cell rfl
      have b9 : Below w.heap.size w W9 := by rw [← hW9]; exact B1.out.setCell (p := ⟨w.heap.size + 1, 0, none⟩) (Nat.le_succ _) _
      refine bodyPost_ret (v := .tuple #[.agg #[.slice none 0 0], .int .i64 2]) (by simp [results, Tryz.results14, go_sem, r9]) rfl ?_
      exact fin2 _ b9
    · have h2 : (n : Int) ≤ at_ := by omega
      have d1 : decide (at_ < 0) = false := by simpa using h1
      have d2 : decide ((n : Int) ≤ at_) = true := by simpa using h2
      clear hat h1 h2
      go_enter Tryz.func14, Tryz.ntmps14
      go_wp2_with (first
        | (go_at_call 11; refine (RT.out _ B0.out).mono ?_; rintro e w1 ⟨rfl, b1⟩; have B1 := Lib.hid (B0.out.trans (b1.mono B0.out.size)); have KQ := Lib.hid (K0.out.below b1 K0.out.lt); have KR := Lib.hid (R0.out.below b1 R0.out.lt); have c1 : w1.cell? ⟨w.heap.size, 0, none⟩ = some (.slice a n c) := KQ.out.cell rfl; have r1 : w1.cell? ⟨w.heap.size + 1, 0, none⟩ = some (.slice none 0 0) := KR.out.cell rfl; have z1 := KR.out.frozen 0; have l1 := KR.out.lt; have l0 := KQ.out.lt; clear b1))
      generalize hW9 : World.setCell w1 _ _ = W9
      have r9 : W9.cell? ⟨w.heap.size + 1, 0, none⟩ = some (.slice none 0 0) := by rw [← hW9]; exact (KR.out.set_ 0 _).cell rfl
      have b9 : Below w.heap.size w W9 := by rw [← hW9]; exact B1.out.setCell (p := ⟨w.heap.size + 1, 0, none⟩) (Nat.le_succ _) _
      refine bodyPost_ret (v := .tuple #[.agg #[.slice none 0 0], .int .i64 2]) (by simp [results, Tryz.results14, go_sem, r9]) rfl ?_
      exact fin2 _ b9
set_option maxRecDepth 100000 in
set_option maxHeartbeats 40000000 in
/-- the tree below a node -/
theorem part_own {t u : Tr} {v : Value} (ap : Nat) (hg : t.Good) (hsz : t.size ≤ 256) (hdp : t.deep ≤ 32) (hap : ap < t.size) (hu : subT t ap = some u) (w w0 : World) (hs : SlR w0 w0.heap.size 4 (ND.Is w0 w0.heap.size) v (ndsT t 0)) (hok : ∀ d ∈ ndsT t 0, NdOk d) (hm : Marks w0) (hp : Pow w0) (hw : Below w0.heap.size w0 w) :
    Calls Tryz.prog 14 #[.agg #[v], .int .i64 (ap : Int)] w (PartO w (u.flat 0) 0) := by
  obtain ⟨l, hl⟩ : ∃ l, l = ndsT t 0 := ⟨_, rfl⟩
  have hr0 : rightE l = 0 := by rw [hl]; exact (right_of hg hsz hdp).1
  have hlen : l.length = t.size := by rw [hl, nds_len]
  obtain ⟨u', hu', su, _, _, hflat, _⟩ := sub_some t ap hap
  rw [hu] at hu'
  injection hu' with hu'
  subst hu'
  have hget : ∀ j d, (u.flat ap)[j]? = some d → l[ap + j]? = some d.nd := fun j d hd => by rw [hl]; exact sub_get (hflat 0) hd
  have hkin : ∀ d ∈ u.flat ap, ∀ k ∈ d.kids, ap < k ∧ k < ap + u.size := kids_in u ap
  have hmore : ∀ j, j < u.size → ap + j < endL ((u.flat ap).take j) (ap + 1) := fun j hj => end_more u ap (ap + 1) j (by omega) hj
  have hend : ∀ j, endL ((u.flat ap).take j) (ap + 1) ≤ ap + u.size := end_part u ap
  have hback : (u.flat ap).map (backN ap) = u.flat 0 := by have := flat_back u 0 ap; rwa [Nat.zero_add] at this
  have hul : (u.flat ap).length = u.size := trFlat_len u ap
  rw [← hl] at hs hok
  obtain ⟨a, c, rfl⟩ : ∃ a c, v = .slice a l.length c := by obtain ⟨a, c, h, _⟩ := hs.form; exact ⟨a, c, h⟩
  have hn63 : l.length ≤ 9223372036854775807 := by have := hs.caps; unfold maxLen at this; omega
  have RT := Lib.hid (fun Y (hY : Below w.heap.size w Y) => right_e Y w0 hs hok hm hp (hw.trans (hY.mono hw.size)))
  have B0 : Hid (Below w.heap.size w ((w.alloc (.cells #[.slice a l.length c] 24)).alloc (.cells #[.slice none 0 0] 24))) := Lib.hid (((Below.refl _ _).alloc (Nat.le_refl _) _).alloc (by rw [World.size_alloc]; omega) _)
  have K0 : Hid (Blk ((w.alloc (.cells #[.slice a l.length c] 24)).alloc (.cells #[.slice none 0 0] 24)) w.heap.size 24 #[.slice a l.length c]) := Lib.hid ((Blk.new _ _ _).alloc _)
  have R0 : Hid (Blk ((w.alloc (.cells #[.slice a l.length c] 24)).alloc (.cells #[.slice none 0 0] 24)) (w.heap.size + 1) 24 #[.slice none 0 0]) := Lib.hid (Blk.new_ (by rw [World.size_alloc]) _ _)
  rw [hr0] at RT
  obtain ⟨n, hn⟩ : ∃ n, l.length = n := ⟨_, rfl⟩
  have HN := Lib.hid hn
  rw [hn] at hn63 B0 K0 R0 RT hlen ⊢
  have HS := Lib.hid hs
  have HW := Lib.hid hw
  have n256 : n ≤ 256 := by omega
  have apn : ap < n := by omega
  have un : ap + u.size ≤ n := by omega
  have HGET := Lib.hid hget
  have HKIN := Lib.hid hkin
  have HMORE := Lib.hid hmore
  have HEND := Lib.hid hend
  have HBACK := Lib.hid hback
  have HUL := Lib.hid hul
  have HKF := Lib.hid (kids_few u ap)
  obtain ⟨us, hus⟩ : ∃ z, u.size = z := ⟨_, rfl⟩
  rw [hus] at un
  have HUS := Lib.hid hus
  have d1 : decide ((ap : Int) < 0) = false := by simp only [decide_eq_false_iff_not]; omega
  have d2 : decide ((n : Int) ≤ (ap : Int)) = false := by simp only [decide_eq_false_iff_not]; omega
  have d3 : decide (n ≤ ap) = false := by simp only [decide_eq_false_iff_not]; omega
  have a63 : (ap : Int) ≤ 256 := by omega
  have a0 : (0 : Int) ≤ (ap : Int) := Int.natCast_nonneg _
  obtain ⟨jE, hi, hz, hs2, hby⟩ := info_parts info_enode
  have IE := Lib.hid (And.intro hi (And.intro hz (And.intro hs2 hby)))
  clear hi hz hs2 hby
  obtain ⟨jI, hi, hz, hs2, hby⟩ := info_parts info_int
  have II := Lib.hid (And.intro hi (And.intro hz (And.intro hs2 hby)))
  clear hi hz hs2 hby hs hok hm hp hw hg hsz hdp hap hu hl hr0 hlen su hflat hget hkin hmore hend hback hul hn hus
  go_enter Tryz.func14, Tryz.ntmps14
  go_wp2_with (first
    | (go_at_call 11; refine (RT.out _ B0.out).mono ?_; rintro e w1 ⟨rfl, b1⟩; have B1 := Lib.hid (B0.out.trans (b1.mono B0.out.size)); have KQ := Lib.hid (K0.out.below b1 K0.out.lt); have KR := Lib.hid (R0.out.below b1 R0.out.lt); have c1 : w1.cell? ⟨w.heap.size, 0, none⟩ = some (.slice a n c) := KQ.out.cell rfl; have r1 : w1.cell? ⟨w.heap.size + 1, 0, none⟩ = some (.slice none 0 0) := KR.out.cell rfl; have z1 := KR.out.frozen 0; have l1 := KR.out.lt; have l0 := KQ.out.lt; clear b1))
  have KQA : Hid (Blk (w1.alloc (.cells #[.slice none 0 0] 24)) w.heap.size 24 #[.slice a n c]) := Lib.hid (KQ.out.alloc _)
  have KRA : Hid (Blk (w1.alloc (.cells #[.slice none 0 0] 24)) (w.heap.size + 1) 24 #[.slice none 0 0]) := Lib.hid (KR.out.alloc _)
  have KOA : Hid (Blk (w1.alloc (.cells #[.slice none 0 0] 24)) w1.heap.size 24 #[.slice none 0 0]) := Lib.hid (Blk.new _ _ _)
  have BA : Hid (Below w.heap.size w (w1.alloc (.cells #[.slice none 0 0] 24))) := Lib.hid (B1.out.alloc B1.out.size _)
  have L1 : Hid (w.heap.size + 1 < w1.heap.size) := Lib.hid l1
  have L0 : Hid (w.heap.size < w1.heap.size) := Lib.hid l0
  clear RT c1 r1 z1
  go_loopw [8, 9, 10, 11, 13, 46] (fun ev iv _ _ _ _ wr => ∃ (i j : Nat) (oa : Option Addr) (oc : Nat) (es : List (EN × Value)), Hid (i = ap + j) ∧ j ≤ us ∧ i ≤ ap + us ∧ iv = .int .i64 (i : Int) ∧ ev = .int .i64 (endL ((u.flat ap).take j) (ap + 1) : Int) ∧ Hid (es.map (·.1) = ((u.flat ap).take j).map (backN ap)) ∧ Hid (EL wr (w1.heap.size + 1) (.slice oa j oc) es) ∧ Hid (Blk wr w.heap.size 24 #[.slice a n c]) ∧ Hid (Blk wr (w.heap.size + 1) 24 #[.slice none 0 0]) ∧ Hid (Blk wr w1.heap.size 24 #[.slice oa j oc]) ∧ Hid (Below w.heap.size w wr)) (fun _ iv _ _ _ _ _ => ap + us - (intOf iv).toNat)
  case atStart =>
    exact ⟨ap, 0, none, 0, [], Lib.hid rfl, Nat.zero_le _, by omega, by go_num, by simp [endL], Lib.hid (by simp), Lib.hid (EL.nil _ _), KQA, KRA, KOA, BA⟩
  case round =>
    obtain ⟨i, j, oa, oc, es, hij, hj, hi, rfl, rfl, HES, HEL, KQ1, KR1, KO1, HB1⟩ := hrel
    clear KQA KRA KOA BA
    obtain ⟨wo, hwo⟩ : ∃ W, W = wr := ⟨wr, rfl⟩
    subst hwo
    have i0 : (0 : Int) ≤ (i : Int) := Int.natCast_nonneg _
    have he1 := HEND.out j
    rw [HUS.out] at he1
    obtain ⟨E, hE⟩ : ∃ z, endL ((u.flat ap).take j) (ap + 1) = z := ⟨_, rfl⟩
    rw [hE] at he1 ⊢
    have HE := Lib.hid hE
    have E256 : (E : Int) ≤ 256 := by omega
    have E0 : (0 : Int) ≤ (E : Int) := Int.natCast_nonneg _
    have q0 : wo.cell? ⟨w.heap.size, 0, none⟩ = some (.slice a n c) := KQ1.out.cell (i := 0) rfl
    have o0 : wo.cell? ⟨w1.heap.size, 0, none⟩ = some (.slice oa j oc) := KO1.out.cell (i := 0) rfl
    have zr := KR1.out.frozen 0
    have lq := KQ1.out.lt
    have lr := KR1.out.lt
    have lo := KO1.out.lt
    by_cases hlt : j < us
    · have hmr := HMORE.out j (by rw [HUS.out]; exact hlt)
      rw [hE] at hmr
      have hij2 := hij.out
      have dlt : decide ((i : Int) < (E : Int)) = true := by simp only [decide_eq_true_eq]; omega
      have dlt2 : decide (i < E) = true := by simp only [decide_eq_true_eq]; omega
      obtain ⟨d, hd⟩ := get_some (HUL.out.trans HUS.out) hlt
      have hln := HGET.out j d hd
      rw [← hij2] at hln
      have hwr : Below w0.heap.size w0 wo := HW.out.trans (HB1.out.mono HW.out.size)
      obtain ⟨bN, off, x, rfl, hbN, _, ⟨kv, rfl, hks⟩, hx⟩ := (HS.out.below hwr).at_ hln
      have hkl : d.nd.kids.length = d.kids.length := by rw [nd_kids, List.length_map]
      obtain ⟨ka, kc, rfl, _⟩ := hks.form
      rw [hkl] at hks hx
      obtain ⟨kn, hkn⟩ : ∃ z, d.kids.length = z := ⟨_, rfl⟩
      have HKN := Lib.hid hkn
      rw [hkn] at hks hx
      have x0 : wo.cell? ⟨bN, off + i * 4, none⟩ = some (.int .i64 (d.kind : Int)) := hx 0 _ rfl
      have x1 : wo.cell? ⟨bN, off + i * 4 + 1, none⟩ = some (.string (txt d.text)) := hx 1 _ rfl
      have x2 : wo.cell? ⟨bN, off + i * 4 + 2, none⟩ = some (.int .i64 d.num) := hx 2 _ rfl
      have x3 : wo.cell? ⟨bN, off + i * 4 + 3, none⟩ = some (.slice ka kn kc) := hx 3 _ rfl
      have hkcap := hks.caps
      have kn63 : kn ≤ 9223372036854775807 := by unfold maxLen at hkcap; omega
      have kb : kn ≤ us := by have := HKF.out d (List.mem_iff_getElem?.2 ⟨j, hd⟩); rw [HUS.out] at this; omega
      have HKS := Lib.hid hks
      have HIN := Lib.hid (HKIN.out d (List.mem_iff_getElem?.2 ⟨j, hd⟩))
      have HD := Lib.hid hd
      have HHH := Lib.hid hwr
      have apj : (i : Int) < (n : Int) := by omega
      have apj2 : i < n := by omega
      have lbN : bN < wo.heap.size := by have := hwr.size; omega
      clear hd hln hks hx hkn hwr hE hmr hkcap hij2 hkl hbN
      go_wp2_with fail
      have E1 : Hid (EL (wo.alloc (.cells #[.int .i64 (d.kind : Int), .string (txt d.text), .int .i64 d.num, .slice ka kn kc] 40)) (w1.heap.size + 1) (.slice oa j oc) es) := Lib.hid (HEL.out.alloc _)
      have G1 : Hid (Blk (wo.alloc (.cells #[.int .i64 (d.kind : Int), .string (txt d.text), .int .i64 d.num, .slice ka kn kc] 40)) wo.heap.size 40 #[.int .i64 (d.kind : Int), .string (txt d.text), .int .i64 d.num, .slice ka kn kc]) := Lib.hid (Blk.new _ _ _)
      have S1 : Hid ((wo.alloc (.cells #[.int .i64 (d.kind : Int), .string (txt d.text), .int .i64 d.num, .slice ka kn kc] 40)).heap.size = wo.heap.size + 1) := Lib.hid (by rw [World.size_alloc])
      have BW : Hid (Below wo.heap.size wo (wo.alloc (.cells #[.int .i64 (d.kind : Int), .string (txt d.text), .int .i64 d.num, .slice ka kn kc] 40))) := Lib.hid ((Below.refl _ _).alloc (Nat.le_refl _) _)
      obtain ⟨wb, hwb⟩ : ∃ W, wo.alloc (.cells #[.int .i64 (d.kind : Int), .string (txt d.text), .int .i64 d.num, .slice ka kn kc] 40) = W := ⟨_, rfl⟩
      rw [hwb] at E1 G1 S1 BW
      obtain ⟨S, hS⟩ : ∃ z, wo.heap.size + 1 = z := ⟨_, rfl⟩
      have HSS := Lib.hid hS
      have HWB := Lib.hid hwb
      rw [hS] at S1
      clear x0 x1 x2 x3 q0 o0 zr hS hwb
      go_hide hQ
      go_loopw [8, 11, 13, 46] (fun ev lv _ iv wr => ∃ (m : Nat) (la : Option Addr) (lc : Nat), m ≤ kn ∧ iv = .int .i64 (m : Int) ∧ ev = .int .i64 (endK (d.kids.take m) E : Int) ∧ lv = .slice la m lc ∧ Hid (Own1 wr S 3 1 IsNat (.slice la m lc) ((d.kids.take m).map (· - ap))) ∧ Hid (Below S wb wr)) (fun _ _ _ iv _ => kn - (intOf iv).toNat)
      case atStart =>
        exact ⟨0, none, 0, Nat.zero_le _, rfl, rfl, rfl, Lib.hid ⟨[], ⟨rfl, .inl ⟨rfl, rfl⟩⟩, FlatR.nil_⟩, Lib.hid (by rw [HWB.out]; exact Below.refl _ _)⟩
      case round =>
        obtain ⟨m, la, lc, hmk, rfl, rfl, rfl, HL2, HB2⟩ := hrel
        obtain ⟨wr2, hwr2⟩ : ∃ W, W = wr := ⟨wr, rfl⟩
        subst hwr2
        have m0 : (0 : Int) ≤ (m : Int) := Int.natCast_nonneg _
        have he3 : endK (d.kids.take m) E ≤ ap + us := endK_le _ _ _ he1 (fun x hx => by have := HIN.out x (List.mem_of_mem_take hx); rw [HUS.out] at this; exact this.2)
        obtain ⟨E2, hE2⟩ : ∃ z, endK (d.kids.take m) E = z := ⟨_, rfl⟩
        rw [hE2] at he3 ⊢
        have HE2 := Lib.hid hE2
        have E3b : (E2 : Int) ≤ 256 := by omega
        have E30 : (0 : Int) ≤ (E2 : Int) := Int.natCast_nonneg _
        by_cases hml : m < kn
        · obtain ⟨k, hk⟩ := get_some HKN.out hml
          have hki := HIN.out k (List.mem_iff_getElem?.2 ⟨m, hk⟩)
          rw [HUS.out] at hki
          have hsn := take_snoc1 hk
          have he2 : endK (d.kids.take (m + 1)) E = max E2 (k + 1) := by rw [hsn, endK_snoc, hE2]
          have hw2 : Below w0.heap.size w0 wr2 := HHH.out.trans ((BW.out.mono HHH.out.size).trans (HB2.out.mono (by have := HHH.out.size; have := HSS.out; omega)))
          obtain ⟨bK, offK, xk, rfl, hbK, _, hxk, hck⟩ := (HKS.out.below hw2).at_ (y := (k : Int)) (k := m) (by rw [nd_kids, List.getElem?_map, hk]; rfl)
          have hxk : xk = [.int .i64 (k : Int)] := hxk
          subst hxk
          have kc0 := hck 0 _ rfl
          simp only [Nat.mul_one, Nat.add_zero] at kc0
          have k0 : (0 : Int) ≤ (k : Int) := Int.natCast_nonneg _
          have k2 : (k : Int) ≤ 256 := by omega
          have ka0 : (ap : Int) < (k : Int) := by omega
          have KN : Hid (IsNat [.int .i64 ((k : Int) - (ap : Int))] (k - ap)) := Lib.hid (by show [Value.int .i64 ((k : Int) - (ap : Int))] = [.int .i64 ((k - ap : Nat) : Int)]; congr 2; omega)
          have HK := Lib.hid hk
          have HSN := Lib.hid hsn
          have HE4 := Lib.hid he2
          have lbK : bK < wr2.heap.size := by have := hw2.size; omega
          clear hk hki hsn he2 hw2 hck hE2 hbK
          go_wp2_with (first
            | (at_builtin
               refine wpList_append_list rfl (.tmp 50) (.tmp 54) _ rfl S (wr2.heap.size + 1) 3 jI _ 1 8 Tryz.underlying33 II.out.1 II.out.2.1 II.out.2.2.1 II.out.2.2.2 rfl (by omega) (R := IsNat) (l := (d.kids.take m).map (· - ap)) (m := [k - ap]) (.slice la m lc) ?_ (by exact HL2.out.alloc (.cells #[.int .i64 ((k : Int) - (ap : Int))] 3)) (some ⟨wr2.heap.size, 0, none⟩) 1 1 ?_ (by exact SlR.new1 (x := [.int .i64 ((k : Int) - (ap : Int))]) rfl rfl KN.out) (m + 1) (by rw [List.length_map, List.length_take, HKN.out]; omega) IsNat.one (by rw [List.length_map, List.length_take]; unfold maxLen; omega) (by rw [List.length_map, List.length_take]; omega) (by have := HB2.out.size; have := S1.out; rw [World.size_alloc]; omega) ?_
               rfl
               rfl
               intro la2 lc2 w3 hown hgr
               have O3 := Lib.hid (And.intro hown hgr)
               clear hown hgr))
          go_roundw
          case rel =>
            refine ⟨m + 1, la2, lc2, by omega, by go_num, ?_, rfl, Lib.hid ?_, Lib.hid ?_⟩
            · rw [HE4.out]
              congr 1
              omega
            · have := O3.out.1
              rw [HSN.out, List.map_append]
              exact this
            · exact (HB2.out.alloc (by have := HB2.out.size; have := S1.out; omega) _).grown O3.out.2 (by have := HB2.out.size; have := S1.out; rw [World.size_alloc]; omega) (fun g' hg' => (HL2.out.block g' hg').1)
          case measure => simp [intOf]; omega
        · obtain rfl : m = kn := by omega
          have hdk : d.kids.take m = d.kids := List.take_of_length_le (by rw [HKN.out]; exact Nat.le_refl _)
          have HDK := Lib.hid hdk
          have djj : decide (m < m) = false := by simp
          have sS := S1.out
          have sz2 := HB2.out.size
          have hSS := HSS.out
          have G2 := Lib.hid (G1.out.below HB2.out (by omega))
          have y0 : wr2.cell? ⟨wo.heap.size, 0, none⟩ = some (.int .i64 (d.kind : Int)) := G2.out.cell rfl
          have y1 : wr2.cell? ⟨wo.heap.size, 1, none⟩ = some (.string (txt d.text)) := G2.out.cell rfl
          have y2 : wr2.cell? ⟨wo.heap.size, 2, none⟩ = some (.int .i64 d.num) := G2.out.cell rfl
          have y3 : wr2.cell? ⟨wo.heap.size, 3, none⟩ = some (.slice ka m kc) := G2.out.cell rfl
          have yz := G2.out.frozen 3
          have BO : Below wo.heap.size wo (wr2.setCell ⟨wo.heap.size, 3, none⟩ (.slice la m lc)) := (BW.out.trans (HB2.out.mono (by omega))).setCell (p := ⟨wo.heap.size, 3, none⟩) (Nat.le_refl _) _
          have E3 := Lib.hid (HEL.out.below BO)
          have KO2 : Blk wr2 w1.heap.size 24 #[.slice oa j oc] := KO1.out.below (BW.out.trans (HB2.out.mono (by omega))) lo
          have o2 : wr2.cell? ⟨w1.heap.size, 0, none⟩ = some (.slice oa j oc) := KO2.cell (i := 0) rfl
          have KO3 : Hid (Blk (wr2.setCell ⟨wo.heap.size, 3, none⟩ (.slice la m lc)) w1.heap.size 24 #[.slice oa j oc]) := Lib.hid (KO1.out.below BO lo)
          have S3 : Hid (w1.heap.size + 1 ≤ (wr2.setCell ⟨wo.heap.size, 3, none⟩ (.slice la m lc)).heap.size) := Lib.hid (by have := BO.size; omega)
          have HBO := Lib.hid BO
          have HEN : Hid (es.length = j) := Lib.hid (by have := congrArg List.length HES.out; rw [List.length_map, List.length_map, List.length_take, HUL.out, HUS.out] at this; omega)
          have gne : wo.heap.size ≠ w1.heap.size := by omega
          have gne2 : w1.heap.size ≠ wo.heap.size := by omega
          have lg2 : wo.heap.size < wr2.heap.size := by omega
          have lo2 : w1.heap.size < wr2.heap.size := by omega
          clear hdk KO2 BO hml sS sz2 hSS hE2
          subst hQ
          go_wp2_with (first
            | (at_builtin
               go_must (refine wpList_append_list rfl (.tmp 64) (.tmp 66) _ rfl (w1.heap.size + 1) ((wr2.setCell ⟨wo.heap.size, 3, none⟩ (.slice la m lc)).heap.size + 1) 40 jE _ 4 56 Tryz.underlying22 IE.out.1 IE.out.2.1 IE.out.2.2.1 IE.out.2.2.2 rfl (by omega) (R := IsEN) (l := es) (m := [(⟨d.kind, d.text, d.num, d.kids.map (· - ap)⟩, .slice la m lc)]) (.slice oa j oc) ?_ (by exact E3.out.main.alloc (.cells #[.int .i64 (d.kind : Int), .string (txt d.text), .int .i64 d.num, .slice la m lc] 40)) (some ⟨wr2.heap.size, 0, none⟩) 1 1 ?_ (by exact SlR.new1 (w := (wr2.setCell ⟨wo.heap.size, 3, none⟩ (.slice la m lc))) (x := [.int .i64 (d.kind : Int), .string (txt d.text), .int .i64 d.num, .slice la m lc]) (by simp) rfl ⟨rfl, _, _, _, rfl⟩) (j + 1) (by rw [HEN.out]) IsEN.one (by rw [HEN.out]; unfold maxLen; omega) (by rw [HEN.out]; omega) (by have := S3.out; rw [World.size_alloc]; omega) ?_)
               rfl
               rfl
               intro oa2 oc2 w4 hown hgr
               have O4 := Lib.hid (And.intro hown hgr)
               have K4 := Lib.hid ((KO3.out.alloc (.cells #[.int .i64 (d.kind : Int), .string (txt d.text), .int .i64 d.num, .slice la m lc] 40)).grown hgr (fun e => by have := (E3.out.main.block _ e.symm).1; omega))
               have g4 : w4.cell? ⟨w1.heap.size, 0, none⟩ = some (.slice oa j oc) := K4.out.cell (i := 0) rfl
               have z4 := K4.out.frozen 0
               clear hown hgr))
          have HB4 : Below (w1.heap.size + 1) wo w4 := ((HBO.out.mono (by omega)).alloc S3.out (.cells #[.int .i64 (d.kind : Int), .string (txt d.text), .int .i64 d.num, .slice la m lc] 40)).grown O4.out.2 (by have := HBO.out.size; rw [World.size_alloc]; omega) (fun g' hg' => (HEL.out.main.block g' hg').1)
          have hkv : Own1 ((wr2.setCell ⟨wo.heap.size, 3, none⟩ (.slice la m lc)).alloc (.cells #[.int .i64 (d.kind : Int), .string (txt d.text), .int .i64 d.num, .slice la m lc] 40)) (w1.heap.size + 1) 3 1 IsNat (.slice la m lc) (d.kids.map (· - ap)) := by
            have := ((HL2.out.setFar (p := ⟨wo.heap.size, 3, none⟩) (by show wo.heap.size < S; have := HSS.out; omega) (.slice la m lc)).alloc (.cells #[.int .i64 (d.kind : Int), .string (txt d.text), .int .i64 d.num, .slice la m lc] 40)).mono (base' := w1.heap.size + 1) (by have := HSS.out; omega)
            rw [HDK.out] at this
            exact this
          have E4 := (E3.out.alloc (.cells #[.int .i64 (d.kind : Int), .string (txt d.text), .int .i64 d.num, .slice la m lc] 40)).push2 (e := ⟨d.kind, d.text, d.num, d.kids.map (· - ap)⟩) hkv (fun i p b hp hb e' => by
            have h1 := ((HEL.out.kids i p hp).block b hb).2
            have h2 := (HL2.out.block b e').1
            have := HSS.out
            omega) O4.out.1 O4.out.2
          have HE4 := Lib.hid E4
          have HB5 := Lib.hid HB4
          clear E4 hkv HB4
          go_roundw
          case rel =>
            have hij3 := hij.out
            refine ⟨i + 1, j + 1, oa2, oc2, es ++ [(⟨d.kind, d.text, d.num, d.kids.map (· - ap)⟩, .slice la m lc)], Lib.hid (by have := hij.out; omega), by omega, by omega, by go_num, ?_, Lib.hid ?_, Lib.hid (HE4.out.setLow (p := ⟨w1.heap.size, 0, none⟩) (Nat.lt_succ_self _) _), Lib.hid ((KQ1.out.below HB5.out (by have := L0.out; omega)).far (Nat.ne_of_lt L0.out) _), Lib.hid ((KR1.out.below HB5.out (by have := L1.out; omega)).far (Nat.ne_of_lt L1.out) _), Lib.hid (K4.out.set_ 0 _), Lib.hid ((HB1.out.trans (HB5.out.mono (by have := L0.out; omega))).setCell (p := ⟨w1.heap.size, 0, none⟩) (Nat.le_of_lt L0.out) _)⟩
            · rw [take_snoc1 HD.out, endL_snoc, HE.out, ← HE2.out, HDK.out]
            · rw [take_snoc1 HD.out, List.map_append, List.map_append, HES.out]
              rfl
          case measure => have hij3 := hij.out; simp [intOf]; omega
    · obtain rfl : j = us := by omega
      have hij2 := hij.out
      have dlt : decide ((i : Int) < (E : Int)) = false := by simp only [decide_eq_false_iff_not]; omega
      have dlt2 : decide (i < E) = false := by simp only [decide_eq_false_iff_not]; omega
      have rr0 : wo.cell? ⟨w.heap.size + 1, 0, none⟩ = some (.slice none 0 0) := KR1.out.cell rfl
      clear hlt hij2 hE
      go_wp2_with fail
      generalize hW9 : World.setCell wo _ _ = W9
      have r9 : W9.cell? ⟨w.heap.size + 1, 0, none⟩ = some (.slice oa j oc) := by rw [← hW9]; exact (KR1.out.set_ 0 _).cell rfl
      have b9 : Below w.heap.size w W9 := by rw [← hW9]; exact HB1.out.setCell (p := ⟨w.heap.size + 1, 0, none⟩) (Nat.le_succ _) _
      have e9 : EL W9 (w1.heap.size + 1) (.slice oa j oc) es := by rw [← hW9]; exact HEL.out.setLow (p := ⟨w.heap.size + 1, 0, none⟩) (by show w.heap.size + 1 < w1.heap.size + 1; have := L1.out; omega) _
      refine bodyPost_ret (v := .tuple #[.agg #[.slice oa j oc], .int .i64 0]) (by simp [results, Tryz.results14, go_sem, r9]) rfl ?_
      refine ⟨_, es, rfl, e9.mono (by have := L0.out; omega), ?_, b9⟩
      rw [HES.out, List.take_of_length_le (by rw [HUL.out, HUS.out]; exact Nat.le_refl _), HBACK.out]
theorem part_no {l : List ND} {v : Value} (w w0 : World) (hs : SlR w0 w0.heap.size 4 (ND.Is w0 w0.heap.size) v l) (hok : ∀ d ∈ l, NdOk d) (hm : Marks w0) (hp : Pow w0) (hw : Below w0.heap.size w0 w) (at_ : Int) (r : Nat) (hr : (rightE l ≠ 0 ∧ r = rightE l) ∨ (rightE l = 0 ∧ (at_ < 0 ∨ (l.length : Int) ≤ at_) ∧ r = 2)) :
    Calls Tryz.prog 14 #[.agg #[v], .int .i64 at_] w (PartIs w [] r) := (part_none w w0 hs hok hm hp hw at_ r hr).mono fun _ _ h => h.is
theorem part_yes {t u : Tr} {v : Value} (ap : Nat) (hg : t.Good) (hsz : t.size ≤ 256) (hdp : t.deep ≤ 32) (hap : ap < t.size) (hu : subT t ap = some u) (w w0 : World) (hs : SlR w0 w0.heap.size 4 (ND.Is w0 w0.heap.size) v (ndsT t 0)) (hok : ∀ d ∈ ndsT t 0, NdOk d) (hm : Marks w0) (hp : Pow w0) (hw : Below w0.heap.size w0 w) :
    Calls Tryz.prog 14 #[.agg #[v], .int .i64 (ap : Int)] w (PartIs w (u.flat 0) 0) := (part_own ap hg hsz hdp hap hu w w0 hs hok hm hp hw).mono fun _ _ h => h.is
end Go.Proofs.YtidkbodmiegbkaaGreatDoor
namespace Go.Proofs.YtidkbodmiegbkaaGreatDoor
set_option linter.unusedSimpArgs false
set_option linter.unusedVariables false
open Go.RowKit Go.ChangeShapes Go.WideShapes Go.ChangeAt
theorem own : ownKnob Tryz.prog.godebug = none := by kernel_rfl
end Go.Proofs.YtidkbodmiegbkaaGreatDoor
namespace Go.Proofs.YtidkbodmiegbkaaGreatDoor
set_option linter.unusedSimpArgs false
set_option linter.unusedVariables false
open Go.RowKit
/-- a node's cells -/
def IsNDv : List Value → ND × Value → Prop := fun x p => x = [.int .i64 p.1.kind, .string (txt p.1.text), .int .i64 p.1.num, p.2] ∧ ∃ a n c, p.2 = .slice a n c
theorem IsNDv.one : ∀ x y, IsNDv x y → ∀ u ∈ x, u.oneCell' = true := by
  intro x y h u hu
  obtain ⟨rfl, a, n, c, h2⟩ := h
  rw [h2] at hu
  simp at hu
  rcases hu with rfl | rfl | rfl | rfl <;> rfl
theorem IsI.one : ∀ x y, IsI x y → ∀ u ∈ x, u.oneCell' = true := by
  intro x y h u hu
  unfold IsI at h
  subst h
  simp at hu
  subst hu
  rfl
/-- a list of nodes of the call's own -/
structure NL (X : World) (B : Nat) (v : Value) (es : List (ND × Value)) : Prop where
  main : Own1 X B 40 4 IsNDv v es
  kids : ∀ (i : Nat) (p : ND × Value), es[i]? = some p → Own1 X B 3 1 IsI p.2 p.1.kids
section
variable {X X' : World} {B : Nat} {v v' : Value} {es : List (ND × Value)}
theorem NL.nil (X : World) (B : Nat) : NL X B (.slice none 0 0) [] := ⟨⟨[], ⟨rfl, .inl ⟨rfl, rfl⟩⟩, FlatR.nil_⟩, fun i p h => by simp at h⟩
theorem NL.alloc (h : NL X B v es) (o : Obj) : NL (X.alloc o) B v es := ⟨h.main.alloc o, fun i p hp => (h.kids i p hp).alloc o⟩
theorem NL.below (h : NL X B v es) (hb : Below X.heap.size X X') : NL X' B v es :=
  ⟨h.main.stay (fun b _ hl => hb.block b hl), fun i p hp => (h.kids i p hp).stay (fun b _ hl => hb.block b hl)⟩
theorem NL.setFar (h : NL X B v es) {p : Addr} (hp : p.block < B) (u : Value) : NL (X.setCell p u) B v es :=
  ⟨h.main.setFar hp u, fun i q hq => (h.kids i q hq).setFar hp u⟩
/-- a node more, with a row of its own -/
theorem NL.push (h : NL X B v es) {e : ND} {kv : Value} (hk : Own1 X B 3 1 IsI kv e.kids) (hm : Own1 X' B 40 4 IsNDv v' (es ++ [(e, kv)])) (hg : X.grownBy X' v.ownBlock) : NL X' B v' (es ++ [(e, kv)]) := by
  refine ⟨hm, fun i p hp => ?_⟩
  rcases Nat.lt_or_ge i es.length with hl | hl
  · rw [List.getElem?_append_left hl] at hp
    exact (h.kids i p hp).kept1 h.main (by decide) hg
  · rw [List.getElem?_append_right hl] at hp
    have h0 : i - es.length = 0 := by
      rcases Nat.eq_zero_or_pos (i - es.length) with h0 | h0
      · exact h0
      · rw [List.getElem?_eq_none (by simp; omega)] at hp; cases hp
    rw [h0] at hp
    simp at hp
    subst hp
    exact hk.kept1 h.main (by decide) hg
theorem NL.read (h : NL X B v es) : SlR X X.heap.size 4 (ND.Is X X.heap.size) v (es.map (·.1)) := by
  obtain ⟨a, c, rfl, h1, h2, h3⟩ := h.main.read (by omega)
  refine ⟨a, c, by rw [List.length_map], by rw [List.length_map]; exact h1, h2, fun hl => ?_⟩
  rw [List.length_map] at hl
  obtain ⟨b, off, hb, hlt, hat⟩ := h3 hl
  refine ⟨b, off, hb, hlt, fun i y hy => ?_⟩
  rw [List.getElem?_map] at hy
  cases he : es[i]? with
  | none => rw [he] at hy; cases hy
  | some p =>
    rw [he] at hy
    injection hy with hy
    subst hy
    obtain ⟨x, hx, ⟨hR, _⟩, hc⟩ := hat i p he
    exact ⟨x, hx, ⟨p.2, hR, (h.kids i p he).read (by omega)⟩, hc⟩
end
end Go.Proofs.YtidkbodmiegbkaaGreatDoor
