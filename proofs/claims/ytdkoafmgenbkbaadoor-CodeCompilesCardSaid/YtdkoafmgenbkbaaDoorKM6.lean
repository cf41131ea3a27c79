/- Taken over out of another chapter (its text ERSmall): what is needed here. Taken over out of another chapter (its text ERm8): what is needed here. Taken over out of another chapter (its text ERr8): what is needed here. -/
import Derived.Test.YtdkoafmgenbkbaaDoorProg
import Derived.Test.YtdkoafmgenbkbaaDoorShelf
import Derived.Test.YtdkoafmgenbkbaaDoorCards
import Derived.Test.YtdkoafmgenbkbaaDoorTie
import Derived.Test.YtdkoafmgenbkbaaDoorKM1
import Derived.Test.YtdkoafmgenbkbaaDoorKM2
import Derived.Below
import Derived.BigQuiet
import Derived.Deep.AppendLies
import Derived.Deep.Draws
import Derived.Deep.Fields
import Derived.Deep.QuietTactic
import Derived.Deep.RegionHeld3
import Derived.Deep.Slices
import Derived.Laws.BytesString
import Derived.Laws.IdiomStrings
import Derived.Laws.Rows
import Derived.Lib.AppendStr
import Derived.Lib.Builder
import Derived.Lib.FrozenHead
import Derived.Lib.Hide
import Derived.Lib.ItoaNum
import Derived.Lib.ParseIntB
import Derived.Maps.AppendAt
import Derived.Outline
import Derived.OwnWalk
import Derived.ProofKit
import Derived.WalkKit
import Derived.WalkMore
import Derived.WalkSpells
import Derived.Test.YtdkoafmgenbkbaaDoorKM3
import Derived.Test.YtdkoafmgenbkbaaDoorKM4
import Derived.Test.YtdkoafmgenbkbaaDoorKM5
import Derived.BigRegion
import Derived.Deep.LoopGhost
import Derived.Deep.RegionHeld2
import Derived.Deep.RegionLaw
import Derived.Defers
import Derived.IntWalk
import Derived.Laws.EntriesVeiled
import Derived.Laws.MakeOwn
import Derived.Laws.OwnMore
import Derived.Laws.Pointers
import Derived.Recover
import Derived.RegionTactic
import Derived.StillTailTactics
import Derived.Tactics
import Derived.Tactics2
import Derived.WalkSmall
namespace Go.Proofs.YtdkoafmgenbkbaaDoor
set_option linter.unusedSimpArgs false
set_option linter.unusedVariables false
open Go.RowKit
/-- a cell's text, as numbers -/
def IsTxt (x : List Value) (m : List Nat) : Prop := x = [.string (txt m)] ∧ Bytes m ∧ m.length ≤ maxLen
def textsV (l : List (List Nat)) : List Value := l.map fun m => Value.string (txt m)
theorem texts_read {w : World} {g : Nat} {t : TypeId} (l : List (List Nat)) (hl : ∀ m ∈ l, Bytes m ∧ m.length ≤ 8) (hm : l.length ≤ 100) (hb : Blk w g t (textsV l).toArray) (n c : Nat) (hn : n = l.length) (hc : c = l.length) :
    SlR w w.heap.size 1 IsTxt (.slice (some ⟨g, 0, none⟩) n c) l := by
  subst hn hc
  refine ⟨some ⟨g, 0, none⟩, l.length, rfl, Nat.le_refl _, by unfold maxLen; omega, fun _ => ⟨g, 0, rfl, hb.lt, fun i m hm => ?_⟩⟩
  have h8 := hl m (List.mem_iff_getElem?.2 ⟨i, hm⟩)
  refine ⟨[.string (txt m)], rfl, ⟨rfl, h8.1, by unfold maxLen; omega⟩, fun j u hu => ?_⟩
  rcases j with _ | j
  · simp at hu
    subst hu
    have : (textsV l).toArray[i]? = some (Value.string (txt m)) := by simp [textsV, hm]
    have := hb.cell this
    simpa using this
  · simp at hu
end Go.Proofs.YtdkoafmgenbkbaaDoor
namespace Go.Proofs.YtdkoafmgenbkbaaDoor
set_option linter.unusedSimpArgs false
set_option linter.unusedVariables false
open Go.RowKit
theorem txt_at {W : World} {B g n c k : Nat} {L : List (List Nat)} {m : List Nat} (h : SlR W B 1 IsTxt (.slice (some ⟨g, 0, none⟩) n c) L) (hk : L[k]? = some m) : W.cell? ⟨g, k, none⟩ = some (.string (txt m)) ∧ Bytes m := by
  obtain ⟨b, off, x, hsome, _, _, ⟨rfl, hb, _⟩, hx⟩ := h.at_ hk
  injection hsome with hsome
  injection hsome with e1 e2
  subst e1 e2
  have h0 := hx 0 _ rfl
  simp only [Nat.mul_one, Nat.add_zero, Nat.zero_add] at h0
  exact ⟨h0, hb⟩
set_option maxRecDepth 100000 in
set_option maxHeartbeats 4000000 in
theorem r_kids (k : Int) (W : World) : Calls Tryd.prog 77 #[.int .i64 k] W fun e w' => e = .returned (.int .i64 (kidsN k)) ∧ w' = W := by
  rcases (show (k < 1) ∨ (1 ≤ k ∧ k ≤ 7) ∨ (8 ≤ k ∧ k ≤ 19) ∨ (20 ≤ k ∧ k ≤ 28) ∨ (k = 29) ∨ (k = 30) ∨ (31 ≤ k ∧ k ≤ 34) ∨ (34 < k) by omega) with h | h | h | h | h | h | h | h
  · have hv : kidsN k = -1 := by unfold kidsN; (repeat' split) <;> omega
    rw [hv]
    have t0 : decide (k < 1) = true := by simp; omega
    have t1 : decide (34 < k) = false := by simp; omega
    have t2 : decide (k ≤ 7) = true := by simp; omega
    have t3 : decide (k ≤ 19) = true := by simp; omega
    have q29 : (k == 29) = false := by simp; omega
    have q30 : (k == 30) = false := by simp; omega
    clear hv h
    go_enter Tryd.func77, Tryd.ntmps77
    go_wp2_with fail
    go_ret
    exact ⟨rfl, rfl⟩
  · have hv : kidsN k = 0 := by unfold kidsN; (repeat' split) <;> omega
    rw [hv]
    have t0 : decide (k < 1) = false := by simp; omega
    have t1 : decide (34 < k) = false := by simp; omega
    have t2 : decide (k ≤ 7) = true := by simp; omega
    have t3 : decide (k ≤ 19) = true := by simp; omega
    have q29 : (k == 29) = false := by simp; omega
    have q30 : (k == 30) = false := by simp; omega
    clear hv h
    go_enter Tryd.func77, Tryd.ntmps77
    go_wp2_with fail
    go_ret
    exact ⟨rfl, rfl⟩
  · have hv : kidsN k = 1 := by unfold kidsN; (repeat' split) <;> omega
    rw [hv]
    have t0 : decide (k < 1) = false := by simp; omega
    have t1 : decide (34 < k) = false := by simp; omega
    have t2 : decide (k ≤ 7) = false := by simp; omega
    have t3 : decide (k ≤ 19) = true := by simp; omega
    have q29 : (k == 29) = false := by simp; omega
    have q30 : (k == 30) = false := by simp; omega
    clear hv h
    go_enter Tryd.func77, Tryd.ntmps77
    go_wp2_with fail
    go_ret
    exact ⟨rfl, rfl⟩
  · have hv : kidsN k = 2 := by unfold kidsN; (repeat' split) <;> omega
    rw [hv]
    have t0 : decide (k < 1) = false := by simp; omega
    have t1 : decide (34 < k) = false := by simp; omega
    have t2 : decide (k ≤ 7) = false := by simp; omega
    have t3 : decide (k ≤ 19) = false := by simp; omega
    have q29 : (k == 29) = false := by simp; omega
    have q30 : (k == 30) = false := by simp; omega
    clear hv h
    go_enter Tryd.func77, Tryd.ntmps77
    go_wp2_with fail
    go_ret
    exact ⟨rfl, rfl⟩
  · have hv : kidsN k = 1 := by unfold kidsN; (repeat' split) <;> omega
    rw [hv]
    have t0 : decide (k < 1) = false := by simp; omega
    have t1 : decide (34 < k) = false := by simp; omega
    have t2 : decide (k ≤ 7) = false := by simp; omega
    have t3 : decide (k ≤ 19) = false := by simp; omega
    have q29 : (k == 29) = true := by simp; omega
    have q30 : (k == 30) = false := by simp; omega
    clear hv h
    go_enter Tryd.func77, Tryd.ntmps77
    go_wp2_with fail
    go_ret
    exact ⟨rfl, rfl⟩
  · have hv : kidsN k = 3 := by unfold kidsN; (repeat' split) <;> omega
    rw [hv]
    have t0 : decide (k < 1) = false := by simp; omega
    have t1 : decide (34 < k) = false := by simp; omega
    have t2 : decide (k ≤ 7) = false := by simp; omega
    have t3 : decide (k ≤ 19) = false := by simp; omega
    have q29 : (k == 29) = false := by simp; omega
    have q30 : (k == 30) = true := by simp; omega
    clear hv h
    go_enter Tryd.func77, Tryd.ntmps77
    go_wp2_with fail
    go_ret
    exact ⟨rfl, rfl⟩
  · have hv : kidsN k = 2 := by unfold kidsN; (repeat' split) <;> omega
    rw [hv]
    have t0 : decide (k < 1) = false := by simp; omega
    have t1 : decide (34 < k) = false := by simp; omega
    have t2 : decide (k ≤ 7) = false := by simp; omega
    have t3 : decide (k ≤ 19) = false := by simp; omega
    have q29 : (k == 29) = false := by simp; omega
    have q30 : (k == 30) = false := by simp; omega
    clear hv h
    go_enter Tryd.func77, Tryd.ntmps77
    go_wp2_with fail
    go_ret
    exact ⟨rfl, rfl⟩
  · have hv : kidsN k = -1 := by unfold kidsN; (repeat' split) <;> omega
    rw [hv]
    have t0 : decide (k < 1) = false := by simp; omega
    have t1 : decide (34 < k) = true := by simp; omega
    have t2 : decide (k ≤ 7) = false := by simp; omega
    have t3 : decide (k ≤ 19) = false := by simp; omega
    have q29 : (k == 29) = false := by simp; omega
    have q30 : (k == 30) = false := by simp; omega
    clear hv h
    go_enter Tryd.func77, Tryd.ntmps77
    go_wp2_with fail
    go_ret
    exact ⟨rfl, rfl⟩
set_option maxRecDepth 100000 in
set_option maxHeartbeats 4000000 in
theorem r_reserved (s : List Nat) (hb : Bytes s) (W : World) : Calls Tryd.prog 78 #[.string (txt s)] W fun e w' => e = .returned (.bool (decide (s ∈ wordsL))) ∧ Below W.heap.size W w' := by
  go_enter Tryd.func78, Tryd.ntmps78
  go_wp2_with fail
  generalize hwq : World.alloc _ _ = W1
  have B1 : Hid (Below W.heap.size W W1) := Lib.hid (by rw [← hwq]; exact (Below.refl _ _).alloc (Nat.le_refl _) _)
  have R1 : Hid (SlR W1 W1.heap.size 1 IsTxt (.slice (some ⟨W.heap.size, 0, none⟩) 22 22) wordsL) := Lib.hid (by rw [← hwq]; exact texts_read wordsL (by unfold Bytes; decide) (by decide) (Blk.new W 9 _) 22 22 rfl rfl)
  clear hwq
  obtain ⟨xs, hxs⟩ : ∃ z, W.heap.size = z := ⟨_, rfl⟩
  have HXS := Lib.hid hxs
  have HB := Lib.hid hb
  rw [hxs] at R1 ⊢
  clear hxs hb
  go_loopw [2, 4] (fun _ j wr => ∃ i : Nat, i ≤ 22 ∧ j = .int .i64 (i : Int) ∧ Hid (¬ s ∈ wordsL.take i) ∧ W1 = wr) (fun _ j _ => 22 - (intOf j).toNat)
  case atStart => exact ⟨0, by omega, by go_num, by simp [Hid], rfl⟩
  case round =>
    obtain ⟨i, hi, rfl, hin, rfl⟩ := hrel
    have b1 : (0 : Int) ≤ (i : Int) := Int.natCast_nonneg _
    by_cases hlt : i < 22
    · obtain ⟨y, hd⟩ := get_some (l := wordsL) (n := 22) rfl hlt
      have hc6 : (i : Int) < 22 := by omega
      obtain ⟨t1, hyb⟩ := txt_at R1.out hd
      have hkl := (List.getElem?_eq_some_iff.1 hd).1
      by_cases hcd : y = s
      · subst hcd
        have hv : decide (y ∈ wordsL) = true := by simp; exact List.mem_iff_getElem?.2 ⟨i, hd⟩
        have e1 : ((txt y).toList == (txt y).toList) = true := beq_self_eq_true _
        have HV := Lib.hid hv
        clear hv hd hkl hin
        go_wp2_with fail
        go_ret
        exact ⟨by rw [HV.out]; rfl, B1.out⟩
      · have e1 : ((txt y).toList == (txt s).toList) = false := by
          rw [beq_eq_false_iff_ne]
          intro e
          have := (toList_inj _ _).1 e
          exact hcd (by rw [← bs_txt hyb, this, bs_txt HB.out])
        have hnot : ¬ s ∈ wordsL.take (i + 1) := by
          rw [List.take_succ_eq_append_getElem hkl, (List.getElem?_eq_some_iff.1 hd).2]
          intro hx
          rcases List.mem_append.1 hx with hx | hx
          · exact hin.out hx
          · simp at hx; exact hcd hx.symm
        have Hnot := Lib.hid hnot
        clear hnot hd hkl hcd hin
        go_wp2_with fail
        go_roundw
        case rel => exact ⟨i + 1, by omega, by go_num, Hnot, by first | rfl | trivial⟩
        case measure => simp [intOf]; omega
    · obtain rfl : i = 22 := by omega
      have djj : decide (((22 : Nat) : Int) < 22) = false := by decide
      have hv : decide (s ∈ wordsL) = false := by
        have := hin.out
        rw [List.take_of_length_le (by decide)] at this
        simpa using this
      have HV := Lib.hid hv
      clear hv hlt hin
      go_wp2_with fail
      go_ret
      exact ⟨by rw [HV.out]; rfl, B1.out⟩
set_option maxRecDepth 100000 in
set_option maxHeartbeats 16000000 in
theorem r_may (k : Int) (s : List Nat) (n : Int) (ks : List Int) (ka : Option Addr) (kn kc : Nat) (hkn : kn = ks.length) (hk63 : kn ≤ 9223372036854775807) (hb : Bytes s) (hl : s.length ≤ 140737488355328) (w : World) :
    Calls Tryd.prog 54 #[.agg #[.int .i64 k, .string (txt s), .int .i64 n, .slice ka kn kc]] w fun e w' => e = .returned (.bool (mayE ⟨k, s, n, ks⟩)) ∧ Below w.heap.size w w' := by
  rw [mayE_def, ← hkn]
  have BX : Hid (Below w.heap.size w (w.alloc (.cells #[.int .i64 k, .string (txt s), .int .i64 n, .slice ka kn kc] 80))) := Lib.hid ((Below.refl _ _).alloc (Nat.le_refl _) _)
  have KD : Hid (∀ W, Calls Tryd.prog 77 #[.int .i64 k] W fun e w' => e = .returned (.int .i64 (kidsN k)) ∧ w' = W) := Lib.hid (fun W => r_kids k W)
  have RR : Hid (∀ W, Calls Tryd.prog 41 #[.string (txt s)] W fun e w' => e = .returned (.bool (rightN s)) ∧ Quiet W w') := Lib.hid (fun W => by
    have := ref_right (txt s) (by rw [txt_size]; unfold maxLen; omega) W
    rw [bs_txt hb] at this
    exact this)
  have RV : Hid (∀ W, Calls Tryd.prog 78 #[.string (txt s)] W fun e w' => e = .returned (.bool (decide (s ∈ wordsL))) ∧ Below W.heap.size W w') := Lib.hid (fun W => r_reserved s hb W)
  have hkr : kidsN k = (kn : Int) → 1 ≤ k ∧ k ≤ 34 := by
    intro h
    unfold kidsN at h
    repeat' split at h
    all_goals omega
  obtain ⟨kd, hkd⟩ : ∃ z, kidsN k = z := ⟨_, rfl⟩
  rw [hkd] at KD hkr ⊢
  obtain ⟨sl, hsl⟩ : ∃ z, s.length = z := ⟨_, rfl⟩
  have a7 : ((txt s).size : Int) = (sl : Int) := by rw [txt_size, hsl]
  have e0 : ((txt s).toList == []) = decide (s = []) := by
    by_cases h5 : s = []
    · subst h5; rw [nil_facts]; rfl
    · rw [decide_eq_false h5, beq_eq_false_iff_ne]; exact txt_empty hb h5
  rw [hsl]
  have hin : (k ∈ namedL) ↔ (k = 7 ∨ k = 8 ∨ k = 9 ∨ k = 10 ∨ k = 12 ∨ k = 13 ∨ k = 31 ∨ k = 32 ∨ k = 33 ∨ k = 34) := by simp [namedL]
  clear hkd hkn hb hl hsl
  by_cases h1 : kd = (kn : Int)
  rotate_left
  · have a1 : (kd != (kn : Int)) = true := by simpa using h1
    rw [decide_eq_false h1]
    simp only [Bool.false_and]
    clear h1 hkr hin e0
    go_enter Tryd.func54, Tryd.ntmps54
    go_wp2_with fail
    go_quiet ((go_at_call 77; with_reducible exact quiet_callw (KD.out _)))
    go_wp2_with fail
    go_ret
    exact ⟨rfl, below_drewN BX.out _⟩
  have hk := hkr h1
  subst h1
  have a1 : ((kn : Int) != (kn : Int)) = false := by simp
  rw [decide_eq_true rfl]
  by_cases hmin : n = -9223372036854775808
  · subst hmin
    obtain ⟨k1, hk1⟩ : ∃ b, (k != 1) = b := ⟨_, rfl⟩
    rw [decide_eq_true rfl]
    simp only [Bool.not_true, Bool.and_false, Bool.false_and]
    clear hkr hin e0 hk
    cases k1
    all_goals
      go_enter Tryd.func54, Tryd.ntmps54
      go_wp2_with fail
      go_quiet ((go_at_call 77; with_reducible exact quiet_callw (KD.out _)))
      go_wp2_with fail
      go_ret
      exact ⟨rfl, below_drewN BX.out _⟩
  have m1 : (n == -9223372036854775808) = false := by simpa using hmin
  rw [decide_eq_false hmin]
  by_cases hbad : n ≠ 0 ∧ k ≠ 1
  · have k1 : (k != 1) = true := by simpa using hbad.2
    have n1 : (n != 0) = true := by simpa using hbad.1
    rw [decide_eq_true hbad.1, decide_eq_true hbad.2]
    simp only [Bool.and_self, Bool.not_true, Bool.and_false, Bool.false_and]
    clear hkr hin e0 hk hbad hmin
    go_enter Tryd.func54, Tryd.ntmps54
    go_wp2_with fail
    go_quiet ((go_at_call 77; with_reducible exact quiet_callw (KD.out _)))
    go_wp2_with fail
    go_ret
    exact ⟨rfl, below_drewN BX.out _⟩
  have hok : (decide (n ≠ 0) && decide (k ≠ 1)) = false := by
    by_cases hz : n = 0
    · rw [decide_eq_false (fun h => h hz)]; rfl
    · rw [decide_eq_false (p := k ≠ 1) (fun h => hbad ⟨hz, h⟩), Bool.and_false]
  rw [hok]
  simp only [Bool.not_false, Bool.and_self, Bool.true_and]
  have key : (k != 1) = false ∨ ((k != 1) = true ∧ (n != 0) = false) := by
    by_cases h : k = 1
    · left; simpa using h
    · right
      refine ⟨by simpa using h, ?_⟩
      by_cases hz : n = 0
      · simpa using hz
      · exact absurd ⟨hz, h⟩ hbad
  clear hok hbad hmin hkr
  rcases (show (k = 1) ∨ (k = 2) ∨ (3 ≤ k ∧ k ≤ 6) ∨ (7 ≤ k ∧ k ≤ 13 ∧ k ≠ 11) ∨ (k = 11) ∨ (14 ≤ k ∧ k ≤ 30) ∨ (31 ≤ k ∧ k ≤ 34) by omega) with h | h | h | h | h | h | h
  · have f7 : decide (7 ≤ k) = false := by simp only [decide_eq_true_eq, decide_eq_false_iff_not]; omega
    have f13 : decide (k ≤ 13) = true := by simp only [decide_eq_true_eq, decide_eq_false_iff_not]; omega
    have f11 : (k != 11) = true := by simp; omega
    have f31 : decide (31 ≤ k) = false := by simp only [decide_eq_true_eq, decide_eq_false_iff_not]; omega
    have hnm : ¬ k ∈ namedL := fun h => by have := hin.1 h; omega
    rw [if_neg hnm]
    obtain ⟨ce, hce⟩ : ∃ b, decide (s = []) = b := ⟨_, rfl⟩
    rw [hce] at e0 ⊢
    have k1 : (k != 1) = false := by simp; omega
    have g2 : (k == 2) = false := by simp; omega
    rw [decide_eq_false (p := (k = 2)) (by omega), Bool.false_and, Bool.or_false]
    clear hin hk hce hnm key h RR RV
    cases ce
    all_goals
      go_enter Tryd.func54, Tryd.ntmps54
      go_wp2_with fail
      go_quiet ((go_at_call 77; with_reducible exact quiet_callw (KD.out _)))
      go_wp2_with fail
      go_ret
      exact ⟨rfl, below_drewN BX.out _⟩
  · have f7 : decide (7 ≤ k) = false := by simp only [decide_eq_true_eq, decide_eq_false_iff_not]; omega
    have f13 : decide (k ≤ 13) = true := by simp only [decide_eq_true_eq, decide_eq_false_iff_not]; omega
    have f11 : (k != 11) = true := by simp; omega
    have f31 : decide (31 ≤ k) = false := by simp only [decide_eq_true_eq, decide_eq_false_iff_not]; omega
    have hnm : ¬ k ∈ namedL := fun h => by have := hin.1 h; omega
    rw [if_neg hnm]
    obtain ⟨ce, hce⟩ : ∃ b, decide (s = []) = b := ⟨_, rfl⟩
    rw [hce] at e0 ⊢
    have k1 : (k != 1) = true := by simp; omega
    have n1 : (n != 0) = false := by rcases key with q | ⟨_, q⟩; rw [q] at k1; cases k1; exact q
    subst h
    obtain ⟨cl, hcl⟩ : ∃ b, decide (sl ≤ 4096) = b := ⟨_, rfl⟩
    have gl : decide ((sl : Int) ≤ 4096) = cl := by rw [← hcl]; congr 1; apply propext; omega
    rw [hcl, decide_eq_true rfl, Bool.true_and]
    clear hin hk hce hnm key RR RV f7 f13 f11 f31 k1
    cases cl <;> cases ce
    all_goals
      go_enter Tryd.func54, Tryd.ntmps54
      go_wp2_with fail
      go_quiet ((go_at_call 77; with_reducible exact quiet_callw (KD.out _)))
      go_wp2_with fail
      go_ret
      exact ⟨rfl, below_drewN BX.out _⟩
  · have f7 : decide (7 ≤ k) = false := by simp only [decide_eq_true_eq, decide_eq_false_iff_not]; omega
    have f13 : decide (k ≤ 13) = true := by simp only [decide_eq_true_eq, decide_eq_false_iff_not]; omega
    have f11 : (k != 11) = true := by simp; omega
    have f31 : decide (31 ≤ k) = false := by simp only [decide_eq_true_eq, decide_eq_false_iff_not]; omega
    have hnm : ¬ k ∈ namedL := fun h => by have := hin.1 h; omega
    rw [if_neg hnm]
    obtain ⟨ce, hce⟩ : ∃ b, decide (s = []) = b := ⟨_, rfl⟩
    rw [hce] at e0 ⊢
    have k1 : (k != 1) = true := by simp; omega
    have n1 : (n != 0) = false := by rcases key with q | ⟨_, q⟩; rw [q] at k1; cases k1; exact q
    have g2 : (k == 2) = false := by simp; omega
    rw [decide_eq_false (p := (k = 2)) (by omega), Bool.false_and, Bool.or_false]
    clear hin hk hce hnm key h RR RV
    cases ce
    all_goals
      go_enter Tryd.func54, Tryd.ntmps54
      go_wp2_with fail
      go_quiet ((go_at_call 77; with_reducible exact quiet_callw (KD.out _)))
      go_wp2_with fail
      go_ret
      exact ⟨rfl, below_drewN BX.out _⟩
  · have f7 : decide (7 ≤ k) = true := by simp only [decide_eq_true_eq, decide_eq_false_iff_not]; omega
    have f13 : decide (k ≤ 13) = true := by simp only [decide_eq_true_eq, decide_eq_false_iff_not]; omega
    have f11 : (k != 11) = true := by simp; omega
    have f31 : decide (31 ≤ k) = false := by simp only [decide_eq_true_eq, decide_eq_false_iff_not]; omega
    have hnm : k ∈ namedL := hin.2 (by omega)
    have k1 : (k != 1) = true := by simp; omega
    have n1 : (n != 0) = false := by rcases key with q | ⟨_, q⟩; rw [q] at k1; cases k1; exact q
    rw [if_pos hnm]
    unfold plain8N
    obtain ⟨rb, hrb⟩ : ∃ b, rightN s = b := ⟨_, rfl⟩
    obtain ⟨vb, hvb⟩ : ∃ b, decide (s ∈ wordsL) = b := ⟨_, rfl⟩
    rw [hrb] at RR ⊢
    rw [hvb] at RV ⊢
    clear hrb hvb hin e0 hk a7 hnm key h
    cases rb
    · rw [Bool.false_and]
      go_enter Tryd.func54, Tryd.ntmps54
      go_wp2_with fail
      go_quiet ((go_at_call 77; with_reducible exact quiet_callw (KD.out _)))
      go_wp2_with (first
          | (go_at_call 41; refine (RR.out _).mono ?_; rintro e w3 ⟨rfl, nq, rfl⟩)
          | (go_at_call 78; refine (RV.out _).mono ?_; rintro e w4 ⟨rfl, b4⟩; have B4 := Lib.hid b4; clear b4))
      go_ret
      exact ⟨rfl, by first | exact (below_drewN BX.out _).trans (B4.out.mono (by have := BX.out.size; exact this)) | exact below_drewN BX.out _⟩
    · cases vb
      all_goals
        go_enter Tryd.func54, Tryd.ntmps54
        go_wp2_with fail
        go_quiet ((go_at_call 77; with_reducible exact quiet_callw (KD.out _)))
        go_wp2_with (first
          | (go_at_call 41; refine (RR.out _).mono ?_; rintro e w3 ⟨rfl, nq, rfl⟩)
          | (go_at_call 78; refine (RV.out _).mono ?_; rintro e w4 ⟨rfl, b4⟩; have B4 := Lib.hid b4; clear b4))
        go_ret
        exact ⟨rfl, by first | exact (below_drewN BX.out _).trans (B4.out.mono (by have := BX.out.size; exact this)) | exact below_drewN BX.out _⟩
  · have f7 : decide (7 ≤ k) = true := by simp only [decide_eq_true_eq, decide_eq_false_iff_not]; omega
    have f13 : decide (k ≤ 13) = true := by simp only [decide_eq_true_eq, decide_eq_false_iff_not]; omega
    have f11 : (k != 11) = false := by simp; omega
    have f31 : decide (31 ≤ k) = false := by simp only [decide_eq_true_eq, decide_eq_false_iff_not]; omega
    have hnm : ¬ k ∈ namedL := fun h => by have := hin.1 h; omega
    rw [if_neg hnm]
    obtain ⟨ce, hce⟩ : ∃ b, decide (s = []) = b := ⟨_, rfl⟩
    rw [hce] at e0 ⊢
    have k1 : (k != 1) = true := by simp; omega
    have n1 : (n != 0) = false := by rcases key with q | ⟨_, q⟩; rw [q] at k1; cases k1; exact q
    have g2 : (k == 2) = false := by simp; omega
    rw [decide_eq_false (p := (k = 2)) (by omega), Bool.false_and, Bool.or_false]
    clear hin hk hce hnm key h RR RV
    cases ce
    all_goals
      go_enter Tryd.func54, Tryd.ntmps54
      go_wp2_with fail
      go_quiet ((go_at_call 77; with_reducible exact quiet_callw (KD.out _)))
      go_wp2_with fail
      go_ret
      exact ⟨rfl, below_drewN BX.out _⟩
  · have f7 : decide (7 ≤ k) = true := by simp only [decide_eq_true_eq, decide_eq_false_iff_not]; omega
    have f13 : decide (k ≤ 13) = false := by simp only [decide_eq_true_eq, decide_eq_false_iff_not]; omega
    have f11 : (k != 11) = true := by simp; omega
    have f31 : decide (31 ≤ k) = false := by simp only [decide_eq_true_eq, decide_eq_false_iff_not]; omega
    have hnm : ¬ k ∈ namedL := fun h => by have := hin.1 h; omega
    rw [if_neg hnm]
    obtain ⟨ce, hce⟩ : ∃ b, decide (s = []) = b := ⟨_, rfl⟩
    rw [hce] at e0 ⊢
    have k1 : (k != 1) = true := by simp; omega
    have n1 : (n != 0) = false := by rcases key with q | ⟨_, q⟩; rw [q] at k1; cases k1; exact q
    have g2 : (k == 2) = false := by simp; omega
    rw [decide_eq_false (p := (k = 2)) (by omega), Bool.false_and, Bool.or_false]
    clear hin hk hce hnm key h RR RV
    cases ce
    all_goals
      go_enter Tryd.func54, Tryd.ntmps54
      go_wp2_with fail
      go_quiet ((go_at_call 77; with_reducible exact quiet_callw (KD.out _)))
      go_wp2_with fail
      go_ret
      exact ⟨rfl, below_drewN BX.out _⟩
  · have f7 : decide (7 ≤ k) = true := by simp only [decide_eq_true_eq, decide_eq_false_iff_not]; omega
    have f13 : decide (k ≤ 13) = false := by simp only [decide_eq_true_eq, decide_eq_false_iff_not]; omega
    have f11 : (k != 11) = true := by simp; omega
    have f31 : decide (31 ≤ k) = true := by simp only [decide_eq_true_eq, decide_eq_false_iff_not]; omega
    have hnm : k ∈ namedL := hin.2 (by omega)
    have k1 : (k != 1) = true := by simp; omega
    have n1 : (n != 0) = false := by rcases key with q | ⟨_, q⟩; rw [q] at k1; cases k1; exact q
    rw [if_pos hnm]
    unfold plain8N
    obtain ⟨rb, hrb⟩ : ∃ b, rightN s = b := ⟨_, rfl⟩
    obtain ⟨vb, hvb⟩ : ∃ b, decide (s ∈ wordsL) = b := ⟨_, rfl⟩
    rw [hrb] at RR ⊢
    rw [hvb] at RV ⊢
    clear hrb hvb hin e0 hk a7 hnm key h
    cases rb
    · rw [Bool.false_and]
      go_enter Tryd.func54, Tryd.ntmps54
      go_wp2_with fail
      go_quiet ((go_at_call 77; with_reducible exact quiet_callw (KD.out _)))
      go_wp2_with (first
          | (go_at_call 41; refine (RR.out _).mono ?_; rintro e w3 ⟨rfl, nq, rfl⟩)
          | (go_at_call 78; refine (RV.out _).mono ?_; rintro e w4 ⟨rfl, b4⟩; have B4 := Lib.hid b4; clear b4))
      go_ret
      exact ⟨rfl, by first | exact (below_drewN BX.out _).trans (B4.out.mono (by have := BX.out.size; exact this)) | exact below_drewN BX.out _⟩
    · cases vb
      all_goals
        go_enter Tryd.func54, Tryd.ntmps54
        go_wp2_with fail
        go_quiet ((go_at_call 77; with_reducible exact quiet_callw (KD.out _)))
        go_wp2_with (first
          | (go_at_call 41; refine (RR.out _).mono ?_; rintro e w3 ⟨rfl, nq, rfl⟩)
          | (go_at_call 78; refine (RV.out _).mono ?_; rintro e w4 ⟨rfl, b4⟩; have B4 := Lib.hid b4; clear b4))
        go_ret
        exact ⟨rfl, by first | exact (below_drewN BX.out _).trans (B4.out.mono (by have := BX.out.size; exact this)) | exact below_drewN BX.out _⟩
end Go.Proofs.YtdkoafmgenbkbaaDoor
namespace Go.Proofs.YtdkoafmgenbkbaaDoor
set_option linter.unusedSimpArgs false
set_option linter.unusedVariables false
open Go.RowKit
set_option maxRecDepth 100000 in
set_option maxHeartbeats 40000000 in
theorem rright {l : List ND} {v : Value} (w w0 : World) (hs : SlR w0 w0.heap.size 4 (ND.Is w0 w0.heap.size) v l) (hok : ∀ d ∈ l, NdOk d) (hw : Below w0.heap.size w0 w) :
    Calls Tryd.prog 29 #[.agg #[v]] w fun e w' => e = .returned (.int .i64 (rightE l : Int)) ∧ Below w.heap.size w w' := by
  obtain ⟨a, c, rfl⟩ : ∃ a c, v = .slice a l.length c := by obtain ⟨a, c, h, _⟩ := hs.form; exact ⟨a, c, h⟩
  have hcap := hs.caps
  have hn63 : l.length ≤ 9223372036854775807 := by unfold maxLen at hcap; omega
  obtain ⟨n, hn⟩ : ∃ n, l.length = n := ⟨_, rfl⟩
  have HN := Lib.hid hn
  have hr1 : 256 < n → rightE l = 4 := fun h => by unfold rightE; rw [hn, if_pos h]
  have hr2 : n = 0 → rightE l = 80 := fun h => by
    have : l = [] := List.eq_nil_of_length_eq_zero (by omega)
    subst this
    rfl
  have hr3 : ∀ i, i < n → n ≤ 256 → metN l n i = none → rightE l = 80 := fun i hi h2 h => right_no (i := i) hok (by omega) (by rw [hn]; exact h) (by omega)
  have hr4 : ∀ dp sz : Nat, n ≤ 256 → metN l n 0 = some (dp, 0 + sz) → rightE l = if sz ≠ n then 80 else if 32 < dp then 4 else 0 := fun dp sz h2 h => by
    unfold rightE
    rw [hn, if_neg (by omega), h]
    simp only [Nat.zero_add]
  rw [hn] at hn63 hcap ⊢
  have HS := Lib.hid hs
  have HW := Lib.hid hw
  have HOK := Lib.hid hok
  have HR3 := Lib.hid hr3
  have HR4 := Lib.hid hr4
  have B0 : Hid (Below w.heap.size w (w.alloc (.cells #[.slice a n c] 38))) := Lib.hid ((Below.refl _ _).alloc (Nat.le_refl _) _)
  have K0 : Hid (Blk (w.alloc (.cells #[.slice a n c] 38)) w.heap.size 38 #[.slice a n c]) := Lib.hid (Blk.new _ _ _)
  obtain ⟨R, hR⟩ : ∃ R, rightE l = R := ⟨_, rfl⟩
  rw [hR] at hr1 hr2 HR3 HR4 ⊢
  have HRR := Lib.hid hR
  clear hs hok hw hn hr3 hr4 hR hcap
  by_cases hbig : 256 < n
  · have d1 : decide ((256 : Int) < (n : Int)) = true := by simp only [decide_eq_true_eq]; omega
    have d2 : decide (256 < n) = true := by simpa using hbig
    have hv := hr1 hbig
    subst hv
    clear hr1 hr2 HRR HR3 HR4 hbig
    go_enter Tryd.func29, Tryd.ntmps29
    go_wp2_with fail
    go_ret
    exact ⟨rfl, B0.out⟩
  have d1 : decide ((256 : Int) < (n : Int)) = false := by simp only [decide_eq_false_iff_not]; omega
  have d2 : decide (256 < n) = false := by simpa using hbig
  by_cases hz : n = 0
  · have hv := hr2 hz
    subst hz hv
    clear hr1 hr2 HRR HR3 HR4 hbig
    go_enter Tryd.func29, Tryd.ntmps29
    go_wp2_with fail
    go_ret
    exact ⟨rfl, B0.out⟩
  have z1 : ((n : Int) == 0) = false := by simp; omega
  have n256 : n ≤ 256 := by omega
  have n6 : (n : Int) ≤ 256 := by omega
  have n0 : (0 : Int) < (n : Int) := by omega
  have np : 0 < n := by omega
  obtain ⟨jI, hi, hzz, hs2, hby⟩ := info_parts info_int
  have II := Lib.hid (And.intro hi (And.intro hzz (And.intro hs2 hby)))
  have tok1 : True := trivial
  have tok2 : True := trivial
  clear hi hzz hs2 hby hr1 hr2 hbig hz HRR
  go_enter Tryd.func29, Tryd.ntmps29
  go_wp2_with (first
    | (at_make
       have _t := tok1
       refine wpList_make_full _ rfl (.tmp 19) (.tmp 19) 64 rfl (w.heap.size + 1) 3 jI _ 1 Tryd.underlying64 II.out.1 II.out.2.1 II.out.2.2.1 .i64 .i64 (n : Int) (n : Int) n rfl rfl rfl rfl (by rw [II.out.2.2.2]; omega) (by unfold maxLen; omega) (by rw [World.size_alloc]; exact Nat.le_refl _) ?_
       intro w1 hown hgr
       have R1 := Lib.hid (ArI.new hown)
       have B1 : Hid (Below w.heap.size w w1) := Lib.hid (B0.out.grown hgr (by rw [World.size_alloc]; omega) (fun g hg => by cases hg))
       have KQ1 := Lib.hid (K0.out.grown hgr (by simp))
       have Z1 : Hid (w.heap.size + 1 < w1.heap.size) := Lib.hid (by have := (ArI.lt R1.out).2; rw [World.size_alloc] at this; exact this)
       have e1 : w1.cell? ⟨w.heap.size, 0, none⟩ = some (.slice a n c) := KQ1.out.cell (i := 0) rfl
       have l1 := KQ1.out.lt
       clear hown hgr tok1 _t)
    | (at_make
       have _t := tok2
       refine wpList_make_full _ rfl (.tmp 23) (.tmp 23) 64 rfl (w.heap.size + 1) 3 jI _ 1 Tryd.underlying64 II.out.1 II.out.2.1 II.out.2.2.1 .i64 .i64 (n : Int) (n : Int) n rfl rfl rfl rfl (by rw [II.out.2.2.2]; omega) (by unfold maxLen; omega) (by have := Z1.out; omega) ?_
       intro w2 hown hgr
       have R2 := Lib.hid (ArI.new hown)
       have B2 : Hid (Below w.heap.size w w2) := Lib.hid (B1.out.grown hgr B1.out.size (fun g hg => by cases hg))
       have KQ2 := Lib.hid (KQ1.out.grown hgr (by simp))
       have R12 : Hid (ArI w2 (w.heap.size + 1) (w.heap.size + 1) n (List.replicate n 0)) := Lib.hid (by have := R1.out; rw [World.size_alloc] at this; exact this.stay (fun b _ hl => hgr.block b hl (by simp)))
       have e2 : w2.cell? ⟨w.heap.size, 0, none⟩ = some (.slice a n c) := KQ2.out.cell (i := 0) rfl
       have l2 := KQ2.out.lt
       clear hown hgr tok2 _t))
  have L1 : Hid (w.heap.size + 1 < w1.heap.size) := Z1
  have TB0 := Lib.hid (Tab.start l n)
  clear e1 e2 l1 l2
  go_loopw [2, 5, 6, 7, 8] (fun _ iv _ _ _ wr => ∃ (m : Nat) (SL DL : List Int), m ≤ n ∧ iv = .int .i64 ((m : Int) - 1) ∧ Hid (Tab l n m SL DL) ∧ Hid (ArI wr (w.heap.size + 1) (w.heap.size + 1) n SL) ∧ Hid (ArI wr (w.heap.size + 1) w1.heap.size n DL) ∧ Hid (Blk wr w.heap.size 38 #[.slice a n c]) ∧ Hid (Below w.heap.size w wr)) (fun _ iv _ _ _ _ => ((intOf iv) + 1).toNat)
  case atStart => exact ⟨n, _, _, Nat.le_refl _, by go_num, TB0, R12, R2, KQ2, B2⟩
  case round =>
    obtain ⟨m, SL, DL, hm, rfl, HT, HSb, HDb, KQw, HBw⟩ := hrel
    clear R12 R2 KQ2 B2 KQ1 B1 R1
    obtain ⟨wo, hwo⟩ : ∃ W, W = wr := ⟨wr, rfl⟩
    subst hwo
    have q0 : wo.cell? ⟨w.heap.size, 0, none⟩ = some (.slice a n c) := KQw.out.cell (i := 0) rfl
    have lq := KQw.out.lt
    by_cases hlt : 0 < m
    · obtain ⟨i, rfl⟩ : ∃ i, m = i + 1 := ⟨m - 1, by omega⟩
      have hie : ((i + 1 : Nat) : Int) - 1 = (i : Int) := by omega
      rw [hie]
      have i0 : (0 : Int) ≤ (i : Int) := Int.natCast_nonneg _
      have di : decide ((0 : Int) ≤ (i : Int)) = true := by simp
      have ilt : i < n := by omega
      have iln : (i : Int) < (n : Int) := by omega
      obtain ⟨d, hd⟩ := get_some HN.out ilt
      have hwr : Below w0.heap.size w0 wo := HW.out.trans (HBw.out.mono HW.out.size)
      obtain ⟨bN, off, x, rfl, hbN, _, ⟨kv, rfl, hks⟩, hx⟩ := (HS.out.below hwr).at_ hd
      obtain ⟨ka, kc, rfl, _⟩ := hks.form
      obtain ⟨kn, hkn⟩ : ∃ z, d.kids.length = z := ⟨_, rfl⟩
      rw [hkn] at hks hx
      have hkc := hks.caps
      have kn63 : kn ≤ 9223372036854775807 := by unfold maxLen at hkc; omega
      have x0 : wo.cell? ⟨bN, off + i * 4, none⟩ = some (.int .i64 d.kind) := hx 0 _ rfl
      have x1 : wo.cell? ⟨bN, off + i * 4 + 1, none⟩ = some (.string (txt d.text)) := hx 1 _ rfl
      have x2 : wo.cell? ⟨bN, off + i * 4 + 2, none⟩ = some (.int .i64 d.num) := hx 2 _ rfl
      have x3 : wo.cell? ⟨bN, off + i * 4 + 3, none⟩ = some (.slice ka kn kc) := hx 3 _ rfl
      have w0le := hwr.size
      have HKS := Lib.hid hks
      have HWR := Lib.hid hwr
      have HKN := Lib.hid hkn
      have HD := Lib.hid hd
      have hstep := met_step HN.out hd
      have hnd := HOK.out d (List.mem_iff_getElem?.2 ⟨i, hd⟩)
      have lbN : bN < wo.heap.size := by omega
      have BG : Hid (Below wo.heap.size wo (wo.alloc (.cells #[.int .i64 d.kind, .string (txt d.text), .int .i64 d.num, .slice ka kn kc] 80))) := Lib.hid ((Below.refl _ _).alloc (Nat.le_refl _) _)
      have G3 : Hid (Blk (wo.alloc (.cells #[.int .i64 d.kind, .string (txt d.text), .int .i64 d.num, .slice ka kn kc] 80)) wo.heap.size 80 #[.int .i64 d.kind, .string (txt d.text), .int .i64 d.num, .slice ka kn kc]) := Lib.hid (Blk.new _ _ _)
      have MAYC : Hid (∀ W, Calls Tryd.prog 54 #[.agg #[.int .i64 d.kind, .string (txt d.text), .int .i64 d.num, .slice ka kn kc]] W fun e w' => e = .returned (.bool (mayE d)) ∧ Below W.heap.size W w') := Lib.hid (fun W => by
        have := r_may d.kind d.text d.num d.kids ka kn kc HKN.out.symm kn63 hnd.1 hnd.2.1 W
        exact this)
      have HST := Lib.hid hstep
      clear hd hks hx hwr hkn hbN hkc hstep hnd hie
      obtain ⟨mb, hmb⟩ : ∃ b, mayE d = b := ⟨_, rfl⟩
      rw [hmb] at MAYC HST
      clear hmb
      cases mb with
      | false =>
        have hv : (80 : Nat) = R := (HR3.out i ilt n256 (by have := HST.out; rw [if_neg (by simp)] at this; exact this)).symm
        have HV := Lib.hid hv
        clear hv
        go_wp2_with (first
          | (go_at_call 54
             go_must (refine (MAYC.out _).mono ?_)
             go_must (rintro e w4 ⟨rfl, b4⟩)
             have B4 : Hid (Below wo.heap.size wo w4) := Lib.hid (BG.out.trans (b4.mono BG.out.size))
             have G4 := Lib.hid (G3.out.below b4 G3.out.lt)
             have q3 : w4.cell? ⟨wo.heap.size, 3, none⟩ = some (.slice ka kn kc) := G4.out.cell (i := 3) rfl
             have lg4 := G4.out.lt
             have KQ4 := Lib.hid (KQw.out.below B4.out KQw.out.lt)
             have e4 : w4.cell? ⟨w.heap.size, 0, none⟩ = some (.slice (some ⟨bN, off, none⟩) n c) := KQ4.out.cell (i := 0) rfl
             have lq4 := KQ4.out.lt
             have S4 := Lib.hid (ArI.keep HSb.out B4.out)
             have D4 := Lib.hid (ArI.keep HDb.out B4.out)
             clear b4))
        go_ret
        exact ⟨by rw [← HV.out]; rfl, HBw.out.trans (B4.out.mono HBw.out.size)⟩
      | true =>
        have hst : metN l n i = (metL (metN l n) d.kids (i + 1) 0).map fun r => (r.1 + 1, r.2) := by have := HST.out; rw [if_pos rfl] at this; exact this
        have HST2 := Lib.hid hst
        have HT2 := HT
        clear hst HST
        go_wp2_with (first
          | (go_at_call 54
             go_must (refine (MAYC.out _).mono ?_)
             go_must (rintro e w4 ⟨rfl, b4⟩)
             have B4 : Hid (Below wo.heap.size wo w4) := Lib.hid (BG.out.trans (b4.mono BG.out.size))
             have G4 := Lib.hid (G3.out.below b4 G3.out.lt)
             have q3 : w4.cell? ⟨wo.heap.size, 3, none⟩ = some (.slice ka kn kc) := G4.out.cell (i := 3) rfl
             have lg4 := G4.out.lt
             have KQ4 := Lib.hid (KQw.out.below B4.out KQw.out.lt)
             have e4 : w4.cell? ⟨w.heap.size, 0, none⟩ = some (.slice (some ⟨bN, off, none⟩) n c) := KQ4.out.cell (i := 0) rfl
             have lq4 := KQ4.out.lt
             have S4 := Lib.hid (ArI.keep HSb.out B4.out)
             have D4 := Lib.hid (ArI.keep HDb.out B4.out)
             clear b4))
        clear x0 x1 x2 x3 q0
        have HM0 : Hid (metL (metN l n) d.kids (i + 1) 0 = metL (metN l n) (d.kids.drop 0) (i + 1) 0) := Lib.hid rfl
        have D40 : Hid (ArI w4 (w.heap.size + 1) w1.heap.size n (DL.set i ((0 : Nat) : Int))) := Lib.hid (by
          have hl := HT2.out.2.1
          have h0 := HT2.out.2.2.2 i (by omega) ilt
          have e : DL.set i ((0 : Nat) : Int) = DL := by
            apply List.ext_getElem?
            intro j
            rw [List.getElem?_set]
            split
            · rename_i e; subst e; rw [if_pos (by omega), h0]; rfl
            · rfl
          rw [e]
          exact D4.out)
        have LG4 := Lib.hid lg4
        have GB : Hid (w1.heap.size < wo.heap.size) := Lib.hid (ArI.lt HDb.out).2
        clear q3 e4 D4
        go_hide hQ
        go_loopw [2, 7, 8] (fun _ nv kv wr => ∃ (k e dp : Nat), k ≤ kn ∧ kv = .int .i64 (k : Int) ∧ nv = .int .i64 (e : Int) ∧ i + 1 ≤ e ∧ e ≤ n ∧ dp ≤ n ∧ Hid (metL (metN l n) d.kids (i + 1) 0 = metL (metN l n) (d.kids.drop k) e dp) ∧ Hid (ArI wr (w.heap.size + 1) w1.heap.size n (DL.set i (dp : Int))) ∧ Hid (ArI wr (w.heap.size + 1) (w.heap.size + 1) n SL) ∧ Hid (Blk wr wo.heap.size 80 #[.int .i64 d.kind, .string (txt d.text), .int .i64 d.num, .slice ka kn kc]) ∧ Hid (Blk wr w.heap.size 38 #[.slice (some ⟨bN, off, none⟩) n c]) ∧ Hid (Below w.heap.size w wr)) (fun _ _ kv _ => kn - (intOf kv).toNat)
        case atStart => exact ⟨0, i + 1, 0, Nat.zero_le _, rfl, by go_num, Nat.le_refl _, by omega, by omega, HM0, D40, S4, G4, KQ4, Lib.hid (HBw.out.trans (B4.out.mono HBw.out.size))⟩
        case round =>
          obtain ⟨k, e, dp, hk, rfl, rfl, he1, hen, hdp, HM, HDr, HSr, HGr, HQr, HBr⟩ := hrel
          clear S4 G4 KQ4 B4 D40
          obtain ⟨wi, hwi⟩ : ∃ W, W = wr := ⟨wr, rfl⟩
          subst hwi
          have k0 : (0 : Int) ≤ (k : Int) := Int.natCast_nonneg _
          have e0 : (0 : Int) ≤ (e : Int) := Int.natCast_nonneg _
          have e6 : (e : Int) ≤ 256 := by omega
          have p3 : wi.cell? ⟨wo.heap.size, 3, none⟩ = some (.slice ka kn kc) := HGr.out.cell (i := 3) rfl
          have pq : wi.cell? ⟨w.heap.size, 0, none⟩ = some (.slice (some ⟨bN, off, none⟩) n c) := HQr.out.cell (i := 0) rfl
          have lg := HGr.out.lt
          have lqi := HQr.out.lt
          by_cases hkl : k < kn
          · obtain ⟨kk, hkk⟩ := get_some HKN.out hkl
            have hw2 : Below w0.heap.size w0 wi := HW.out.trans (HBr.out.mono HW.out.size)
            obtain ⟨bK, offK, xk, rfl, hbK, _, hxk, hck⟩ := (HKS.out.below hw2).at_ hkk
            have hxk : xk = [.int .i64 kk] := hxk
            subst hxk
            have kc0 := hck 0 _ rfl
            simp only [Nat.mul_one, Nat.add_zero] at kc0
            have lbK : bK < wi.heap.size := by have := hw2.size; omega
            have hdr : d.kids.drop k = kk :: d.kids.drop (k + 1) := by
              obtain ⟨h1, h2⟩ := List.getElem?_eq_some_iff.1 hkk
              rw [List.drop_eq_getElem_cons h1, h2]
            have hm2 := HM.out
            rw [hdr] at hm2
            simp only [metL] at hm2
            clear hkk hw2 hck hbK hdr
            by_cases hke : kk = (e : Int)
            rotate_left
            · have t1 : (kk != (e : Int)) = true := by simpa using hke
              rw [if_neg hke] at hm2
              have hv : (80 : Nat) = R := (HR3.out i ilt n256 (by rw [HST2.out, hm2]; rfl)).symm
              have HV := Lib.hid hv
              clear hv hm2 hke
              subst hQ
              go_wp2_with fail
              go_ret
              exact ⟨by rw [← HV.out]; rfl, HBr.out⟩
            rw [if_pos hke] at hm2
            subst hke
            have t1 : ((e : Int) != (e : Int)) = false := by simp
            by_cases hee : n ≤ e
            · have t2 : decide ((n : Int) ≤ (e : Int)) = true := by simp only [decide_eq_true_eq]; omega
              have t3 : decide (n ≤ e) = true := by simpa using hee
              have hmn : metN l n e = none := by
                cases n with
                | zero => rfl
                | succ n => rw [metN, List.getElem?_eq_none (by rw [HN.out]; omega)]
              rw [hmn] at hm2
              have hv : (80 : Nat) = R := (HR3.out i ilt n256 (by rw [HST2.out, hm2]; rfl)).symm
              have HV := Lib.hid hv
              clear hv hm2 hee hmn
              subst hQ
              go_wp2_with fail
              go_ret
              exact ⟨by rw [← HV.out]; rfl, HBr.out⟩
            have t2 : decide ((n : Int) ≤ (e : Int)) = false := by simp only [decide_eq_false_iff_not]; omega
            have t3 : decide (n ≤ e) = false := by simpa using hee
            obtain ⟨dq, sz, hmq, hsq, hdq⟩ := HT.out.2.2.1 e he1 (by omega)
            rw [hmq] at hm2
            simp only at hm2
            have hin := metN_in l n e _ hmq
            simp only [HN.out] at hin
            have c1 := ArI.cell HDr.out (i := i) (z := (dp : Int)) (by rw [List.getElem?_set_self (by rw [HT.out.2.1]; exact ilt)])
            have c2 := ArI.cell HDr.out (i := e) (z := (dq : Int)) (by rw [List.getElem?_set_ne (by omega)]; exact hdq)
            have c3 := ArI.cell HSr.out hsq
            have fz := ArI.froz HDr.out np i
            have lD := (ArI.lt HDr.out).2
            have lS := (ArI.lt HSr.out).2
            have een : (e : Int) < (n : Int) := by omega
            have enn : e < n := by omega
            have dp6 : (dp : Int) ≤ 256 := by omega
            have dq6 : (dq : Int) ≤ 256 := by omega
            have sz6 : (e : Int) + (sz : Int) ≤ 256 := by omega
            have sz0 : (0 : Int) ≤ (sz : Int) := Int.natCast_nonneg _
            have dp0 : (0 : Int) ≤ (dp : Int) := Int.natCast_nonneg _
            have dq0 : (0 : Int) ≤ (dq : Int) := Int.natCast_nonneg _
            have iee : i ≠ e := by omega
            have eei : e ≠ i := by omega
            have bne : w1.heap.size ≠ w.heap.size + 1 := by have := L1.out; omega
            have bne2 : w.heap.size + 1 ≠ w1.heap.size := by have := L1.out; omega
            have HM2 := Lib.hid hm2
            have he2 : e + sz ≤ n := by omega
            have hd2 : max dp dq ≤ n := by omega
            have he3 : i + 1 ≤ e + sz := by omega
            clear hm2 hmq hsq hdq hin hee
            go_wp2_with fail
            go_still_tail 12, (by kernel_rfl)
            change wpList _ _ _ _ _ wi.drew
            go_wp2_with fail
            go_roundw
            case rel =>
              refine ⟨k + 1, e + sz, max dp dq, by omega, by go_num, by go_num, he3, he2, hd2, HM2, Lib.hid ?_, Lib.hid ?_, Lib.hid ?_, Lib.hid ?_, Lib.hid ?_⟩
              · have ee : ((max dp dq : Nat) : Int) = max (dp : Int) (dq : Int) := by omega
                have h1 := (ArI.set HDr.out ilt (max (dp : Int) (dq : Int))).drew
                rw [List.set_set] at h1
                rw [ee]
                exact h1
              · exact (ArI.far HSr.out (p := ⟨w1.heap.size, i, none⟩) bne _).drew
              · exact HGr.out.far (p := ⟨w1.heap.size, i, none⟩) (Nat.ne_of_gt GB.out) _
              · exact HQr.out.far (p := ⟨w1.heap.size, i, none⟩) (by have := L1.out; show w.heap.size ≠ w1.heap.size; omega) _
              · exact (HBr.out.setCell (p := ⟨w1.heap.size, i, none⟩) (by have := L1.out; show w.heap.size ≤ w1.heap.size; omega) _).drew
            case measure => simp [intOf]; omega
          · obtain rfl : k = kn := by omega
            have djj : decide (k < k) = false := by simp
            have hfin : metN l n i = some (dp + 1, e) := by
              rw [HST2.out, HM.out, List.drop_of_length_le (by rw [HKN.out]; exact Nat.le_refl _)]
              rfl
            have hin := metN_in l n i _ hfin
            simp only [HN.out] at hin
            have HFIN := Lib.hid hfin
            have c1 := ArI.cell HDr.out (i := i) (z := (dp : Int)) (by rw [List.getElem?_set_self (by rw [HT.out.2.1]; exact ilt)])
            have hS0 : ∃ z, SL[i]? = some z := get_some HT.out.1 ilt
            obtain ⟨s0, hs0⟩ := hS0
            have c3 := ArI.cell HSr.out hs0
            have fz := ArI.froz HDr.out np i
            have fs := ArI.froz HSr.out np i
            have lD := (ArI.lt HDr.out).2
            have lS := (ArI.lt HSr.out).2
            have dp6 : (dp : Int) ≤ 256 := by omega
            have dp0 : (0 : Int) ≤ (dp : Int) := Int.natCast_nonneg _
            have bne : w1.heap.size ≠ w.heap.size + 1 := by have := L1.out; omega
            have bne2 : w.heap.size + 1 ≠ w1.heap.size := by have := L1.out; omega
            have ei : (i : Int) + 1 ≤ (e : Int) := by omega
            clear hfin hin hs0 hkl
            subst hQ
            go_wp2_with fail
            go_roundw
            case rel =>
              refine ⟨i, SL.set i ((e - i : Nat) : Int), (DL.set i (dp : Int)).set i ((dp + 1 : Nat) : Int), by omega, by go_num, Lib.hid ?_, Lib.hid ?_, Lib.hid ?_, Lib.hid ?_, Lib.hid ?_⟩
              · obtain ⟨t1, t2, t3, t4⟩ := HT.out
                refine ⟨by rw [List.length_set, t1], by rw [List.length_set, List.length_set, t2], fun x h1 h2 => ?_, fun x h1 h2 => ?_⟩
                · by_cases hx : x = i
                  · subst hx
                    exact ⟨dp + 1, e - x, by rw [HFIN.out]; congr 2; omega, by rw [List.getElem?_set_self (by omega)], by rw [List.getElem?_set_self (by rw [List.length_set]; omega)]⟩
                  · obtain ⟨a1, a2, a3, a4, a5⟩ := t3 x (by omega) h2
                    exact ⟨a1, a2, a3, by rw [List.getElem?_set_ne (by omega)]; exact a4, by rw [List.getElem?_set_ne (by omega), List.getElem?_set_ne (by omega)]; exact a5⟩
                · rw [List.getElem?_set_ne (by omega), List.getElem?_set_ne (by omega)]
                  exact t4 x (by omega) h2
              · have ee : ((e - i : Nat) : Int) = (e : Int) - (i : Int) := by omega
                rw [ee]
                exact ArI.far (ArI.set HSr.out ilt ((e : Int) - (i : Int))) (p := ⟨w1.heap.size, i, none⟩) bne _
              · exact ArI.set (ArI.far HDr.out (p := ⟨w.heap.size + 1, i, none⟩) bne2 _) ilt ((dp : Int) + 1)
              · exact (HQr.out.far (p := ⟨w.heap.size + 1, i, none⟩) (by show w.heap.size ≠ w.heap.size + 1; omega) _).far (p := ⟨w1.heap.size, i, none⟩) (by have := L1.out; show w.heap.size ≠ w1.heap.size; omega) _
              · exact (HBr.out.setCell (p := ⟨w.heap.size + 1, i, none⟩) (Nat.le_succ _) _).setCell (p := ⟨w1.heap.size, i, none⟩) (by have := L1.out; show w.heap.size ≤ w1.heap.size; omega) _
            case measure => simp [intOf] <;> omega
    · obtain rfl : m = 0 := by omega
      have hie : ((0 : Nat) : Int) - 1 = -1 := rfl
      rw [hie]
      have di : decide ((0 : Int) ≤ -1) = false := by decide
      obtain ⟨dp, sz, hmet, hs1, hd1⟩ := HT.out.2.2.1 0 (Nat.le_refl _) np
      have hv := HR4.out dp sz n256 hmet
      have hin := metN_in l n 0 _ hmet
      simp only [HN.out] at hin
      have c1 := ArI.cell HDb.out hd1
      have c3 := ArI.cell HSb.out hs1
      have lD := (ArI.lt HDb.out).2
      have lS := (ArI.lt HSb.out).2
      have n64 : (0 : Int) < (n : Int) := by omega
      have HV := Lib.hid hv
      clear hmet hs1 hd1 hv hin hlt hie
      by_cases hsz : sz = n
      · have t1 : ((sz : Int) != (n : Int)) = false := by simp; omega
        by_cases hdp : 32 < dp
        · have t2 : decide ((32 : Int) < (dp : Int)) = true := by simp only [decide_eq_true_eq]; omega
          have t3 : decide (32 < dp) = true := by simpa using hdp
          have hR : R = 4 := by rw [HV.out, if_neg (fun h => h hsz), if_pos hdp]
          have HRR := Lib.hid hR
          clear hsz hdp hR
          go_wp2_with fail
          go_region
          go_wp2_with fail
          go_ret
          exact ⟨by rw [HRR.out]; rfl, HBw.out.drew⟩
        · have t2 : decide ((32 : Int) < (dp : Int)) = false := by simp only [decide_eq_false_iff_not]; omega
          have t3 : decide (32 < dp) = false := by simpa using hdp
          have hR : R = 0 := by rw [HV.out, if_neg (fun h => h hsz), if_neg hdp]
          have HRR := Lib.hid hR
          clear hsz hdp hR
          go_wp2_with fail
          go_region
          go_wp2_with fail
          go_ret
          exact ⟨by rw [HRR.out]; rfl, HBw.out.drew⟩
      · have t1 : ((sz : Int) != (n : Int)) = true := by simp; omega
        have hR : R = 80 := by rw [HV.out, if_pos hsz]
        have HRR := Lib.hid hR
        clear hsz hR
        go_wp2_with fail
        go_region
        go_wp2_with fail
        go_ret
        exact ⟨by rw [HRR.out]; rfl, HBw.out.drew⟩
end Go.Proofs.YtdkoafmgenbkbaaDoor
