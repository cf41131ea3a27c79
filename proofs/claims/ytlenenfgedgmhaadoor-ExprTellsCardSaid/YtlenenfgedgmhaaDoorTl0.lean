/- expr.level, mark, word: how tight a Kind is, its sign, its word. -/
import Derived.Test.YtlenenfgedgmhaaDoorRg2
import Derived.Test.YtlenenfgedgmhaaDoorMRSmall
namespace Go.Proofs.YtlenenfgedgmhaaDoor
set_option linter.unusedSimpArgs false
set_option linter.unusedVariables false
open Go.RowKit

/-- how tight a Kind is -/
def levelN (k : Int) : Nat := match signsL.find? (fun x => decide ((x.2.1 : Int) = k)) with
  | some x => x.2.2
  | none => if k = 29 then 3 else 8
/-- the sign of a Kind -/
def markT (k : Int) : List Nat := match signsL.find? (fun x => decide ((x.2.1 : Int) = k)) with
  | some x => x.1
  | none => []
/-- the words, as they are gone through, with their Kinds -/
def tellL : List (List Nat × Nat) := [([116, 114, 117, 101], 3), ([102, 97, 108, 115, 101], 4), ([115, 101, 108, 102], 5), ([110, 111, 110, 101], 6), ([115, 105, 122, 101], 14), ([102, 105, 114, 115, 116], 15), ([116, 101, 120, 116], 16), ([99, 111, 110, 99, 101, 112, 116], 17), ([105, 100], 18), ([105, 110, 116], 19), ([97, 110, 121], 31), ([101, 118, 101, 114, 121], 32), ([111, 110, 108, 121], 33), ([115, 117, 109], 34), ([105, 102], 30)]
/-- the word of a Kind -/
def wordT (k : Int) : List Nat := match tellL.find? (fun x => decide ((x.2 : Int) = k)) with
  | some x => x.1
  | none => []
theorem IsTxt.at {W : World} {B g n c k : Nat} {L : List (List Nat)} {m : List Nat} (h : SlR W B 1 IsTxt (.slice (some ⟨g, 0, none⟩) n c) L) (hk : L[k]? = some m) : W.cell? ⟨g, k, none⟩ = some (.string (txt m)) ∧ Bytes m := by
  obtain ⟨b, off, x, hsome, _, _, ⟨rfl, hb, _⟩, hx⟩ := h.at_ hk
  injection hsome with hsome
  injection hsome with e1 e2
  subst e1 e2
  have h0 := hx 0 _ rfl
  simp only [Nat.mul_one, Nat.add_zero, Nat.zero_add] at h0
  exact ⟨h0, hb⟩
theorem level_le (k : Int) : 1 ≤ levelN k ∧ levelN k ≤ 8 := by
  unfold levelN
  cases h : signsL.find? (fun x => decide ((x.2.1 : Int) = k)) with
  | none => simp only; split <;> omega
  | some x =>
    have : ∀ m ∈ signsL, 1 ≤ m.2.2 ∧ m.2.2 ≤ 8 := by decide
    exact this x (List.mem_of_find?_eq_some h)
theorem mark_len (k : Int) : (markT k).length ≤ 8 ∧ Bytes (markT k) := by
  unfold markT
  cases h : signsL.find? (fun x => decide ((x.2.1 : Int) = k)) with
  | none => exact ⟨by simp, fun n hn => by cases hn⟩
  | some x =>
    have : ∀ m ∈ signsL, m.1.length ≤ 8 ∧ ∀ n ∈ m.1, n < 256 := by decide
    exact this x (List.mem_of_find?_eq_some h)
theorem word_len (k : Int) : (wordT k).length ≤ 8 ∧ Bytes (wordT k) := by
  unfold wordT
  cases h : tellL.find? (fun x => decide ((x.2 : Int) = k)) with
  | none => exact ⟨by simp, fun n hn => by cases hn⟩
  | some x =>
    have : ∀ m ∈ tellL, m.1.length ≤ 8 ∧ ∀ n ∈ m.1, n < 256 := by decide
    exact this x (List.mem_of_find?_eq_some h)
set_option maxRecDepth 100000 in
set_option maxHeartbeats 8000000 in
theorem p_levelT (k : Int) (W : World) (hg : Signs W) : Calls Tryd.prog 55 #[.int .i64 k] W fun e w' => e = .returned (.int .i64 ((levelN k) : Int)) ∧ Below W.heap.size W w' := by
  obtain ⟨tt, fr, hg1⟩ := signs_block hg
  obtain ⟨R, hR⟩ : ∃ R, levelN k = R := ⟨_, rfl⟩
  rw [hR]
  have HR : Hid ((match (signsL.drop 0).find? (fun x => decide ((x.2.1 : Int) = k)) with | some x => x.2.2 | none => (if k = 29 then 3 else 8)) = R) := Lib.hid hR
  clear hg hR
  go_enter Tryd.func55, Tryd.ntmps55
  go_wp2_with (refine wpList_load_row rfl 124 _ rfl 1 rfl tt _ fr _ (hg1) Tryd.underlying124 rfl (by kernel_rfl) ?_)
  go_loopw [4, 6] (fun _ j wr => ∃ i : Nat, i ≤ 15 ∧ j = .int .i64 (i : Int) ∧ Hid ((match (signsL.drop i).find? (fun x => decide ((x.2.1 : Int) = k)) with | some x => x.2.2 | none => (if k = 29 then 3 else 8)) = R) ∧ Hid (Below W.heap.size W wr)) (fun _ j _ => 15 - (intOf j).toNat)
  case atStart => exact ⟨0, by omega, by go_num, HR, Lib.hid (Below.refl _ _)⟩
  case round =>
    obtain ⟨i, hi, rfl, hu, hw⟩ := hrel
    have b1 : (0 : Int) ≤ (i : Int) := Int.natCast_nonneg _
    by_cases hlt : i < 15
    · obtain ⟨x, hx, _⟩ := signs_index i hlt wr
      have hidx : ∀ W, (Instr.index 124 (.agg signsV) (.int .i64 (i : Int))).run Tryd.prog W = .ok (.agg #[.string (txt x.1), .int .i64 (x.2.1 : Int), .int .i64 (x.2.2 : Int)]) W := fun W => by
        obtain ⟨x', hx', h⟩ := signs_index i hlt W
        rw [hx] at hx'
        injection hx' with hx'
        subst hx'
        exact h
      have hv := hu.out
      rw [find_drop1 hx] at hv
      obtain ⟨xt, xk, xl⟩ := x
      simp only at hv
      have BN : Hid (Below W.heap.size W (wr.alloc (.cells #[.string (txt xt), .int .i64 (xk : Int), .int .i64 (xl : Int)] 113))) := Lib.hid (hw.out.alloc hw.out.size _)
      by_cases he : (xk : Int) = k
      · have e1 : ((xk : Int) == k) = true := by simpa using he
        rw [decide_eq_true he, if_pos rfl] at hv
        simp only at hv
        subst hv
        clear hu hx he
        go_wp2_with fail
        go_ret
        exact ⟨rfl, BN.out⟩
      · have e1 : ((xk : Int) == k) = false := by simpa using he
        rw [decide_eq_false he, if_neg (by simp)] at hv
        have HV := Lib.hid hv
        clear hu hx he hv
        go_wp2_with fail
        go_roundw
        case rel => exact ⟨i + 1, by omega, by go_num, HV, BN⟩
        case measure => simp [intOf]; omega
    · obtain rfl : i = 15 := by omega
      have hv : (if k = 29 then 3 else 8) = R := hu.out
      have djj : decide (((15 : Nat) : Int) < 15) = false := by decide
      clear hu hlt
      by_cases h29 : k = 29
      · subst h29
        rw [if_pos rfl] at hv
        subst hv
        go_wp2_with fail
        go_ret
        exact ⟨rfl, hw.out⟩
      · have e29 : (k == 29) = false := by simpa using h29
        rw [if_neg h29] at hv
        subst hv
        clear h29
        go_wp2_with fail
        go_ret
        exact ⟨rfl, hw.out⟩
set_option maxRecDepth 100000 in
set_option maxHeartbeats 8000000 in
theorem p_markT (k : Int) (W : World) (hg : Signs W) : Calls Tryd.prog 60 #[.int .i64 k] W fun e w' => e = .returned (.string (txt (markT k))) ∧ Below W.heap.size W w' := by
  obtain ⟨tt, fr, hg1⟩ := signs_block hg
  obtain ⟨R, hR⟩ : ∃ R, markT k = R := ⟨_, rfl⟩
  rw [hR]
  have HR : Hid ((match (signsL.drop 0).find? (fun x => decide ((x.2.1 : Int) = k)) with | some x => x.1 | none => []) = R) := Lib.hid hR
  clear hg hR
  go_enter Tryd.func60, Tryd.ntmps60
  go_wp2_with (refine wpList_load_row rfl 124 _ rfl 1 rfl tt _ fr _ (hg1) Tryd.underlying124 rfl (by kernel_rfl) ?_)
  go_loopw [4, 6] (fun _ j wr => ∃ i : Nat, i ≤ 15 ∧ j = .int .i64 (i : Int) ∧ Hid ((match (signsL.drop i).find? (fun x => decide ((x.2.1 : Int) = k)) with | some x => x.1 | none => []) = R) ∧ Hid (Below W.heap.size W wr)) (fun _ j _ => 15 - (intOf j).toNat)
  case atStart => exact ⟨0, by omega, by go_num, HR, Lib.hid (Below.refl _ _)⟩
  case round =>
    obtain ⟨i, hi, rfl, hu, hw⟩ := hrel
    have b1 : (0 : Int) ≤ (i : Int) := Int.natCast_nonneg _
    by_cases hlt : i < 15
    · obtain ⟨x, hx, _⟩ := signs_index i hlt wr
      have hidx : ∀ W, (Instr.index 124 (.agg signsV) (.int .i64 (i : Int))).run Tryd.prog W = .ok (.agg #[.string (txt x.1), .int .i64 (x.2.1 : Int), .int .i64 (x.2.2 : Int)]) W := fun W => by
        obtain ⟨x', hx', h⟩ := signs_index i hlt W
        rw [hx] at hx'
        injection hx' with hx'
        subst hx'
        exact h
      have hv := hu.out
      rw [find_drop1 hx] at hv
      obtain ⟨xt, xk, xl⟩ := x
      simp only at hv
      have BN : Hid (Below W.heap.size W (wr.alloc (.cells #[.string (txt xt), .int .i64 (xk : Int), .int .i64 (xl : Int)] 113))) := Lib.hid (hw.out.alloc hw.out.size _)
      by_cases he : (xk : Int) = k
      · have e1 : ((xk : Int) == k) = true := by simpa using he
        rw [decide_eq_true he, if_pos rfl] at hv
        simp only at hv
        subst hv
        clear hu hx he
        go_wp2_with fail
        go_ret
        exact ⟨rfl, BN.out⟩
      · have e1 : ((xk : Int) == k) = false := by simpa using he
        rw [decide_eq_false he, if_neg (by simp)] at hv
        have HV := Lib.hid hv
        clear hu hx he hv
        go_wp2_with fail
        go_roundw
        case rel => exact ⟨i + 1, by omega, by go_num, HV, BN⟩
        case measure => simp [intOf]; omega
    · obtain rfl : i = 15 := by omega
      have hv : [] = R := hu.out
      have djj : decide (((15 : Nat) : Int) < 15) = false := by decide
      clear hu hlt
      subst hv
      go_wp2_with fail
      go_ret
      exact ⟨rfl, hw.out⟩
theorem tell_one : ∀ x ∈ tellL, x.1 ∈ wordsL ∧ (oneN x.1).1 = x.2 := by decide
set_option maxRecDepth 100000 in
set_option maxHeartbeats 8000000 in
theorem p_wordT (k : Int) (W : World) : Calls Tryd.prog 61 #[.int .i64 k] W fun e w' => e = .returned (.string (txt (wordT k))) ∧ Below W.heap.size W w' := by
  obtain ⟨R, hR⟩ : ∃ R, wordT k = R := ⟨_, rfl⟩
  rw [hR]
  have HR : Hid ((match (tellL.drop 0).find? (fun x => decide ((x.2 : Int) = k)) with | some x => x.1 | none => []) = R) := Lib.hid hR
  clear hR
  go_enter Tryd.func61, Tryd.ntmps61
  go_wp2_with fail
  generalize hwq : World.alloc _ _ = W1
  have B1 : Hid (Below W.heap.size W W1) := Lib.hid (by rw [← hwq]; exact (Below.refl _ _).alloc (Nat.le_refl _) _)
  have R1 : Hid (SlR W1 W1.heap.size 1 IsTxt (.slice (some ⟨W.heap.size, 0, none⟩) 15 15) (tellL.map (·.1))) := Lib.hid (by rw [← hwq]; exact texts_read (tellL.map (·.1)) (by unfold Bytes; decide) (by decide) (Blk.new W 9 _) 15 15 rfl rfl)
  clear hwq
  obtain ⟨xs, hxs⟩ : ∃ z, W.heap.size = z := ⟨_, rfl⟩
  have HXS := Lib.hid hxs
  rw [hxs] at R1 ⊢
  clear hxs
  go_loopw [4, 5, 6, 9] (fun _ _ _ j wr => ∃ i : Nat, i ≤ 15 ∧ j = .int .i64 (i : Int) ∧ Hid ((match (tellL.drop i).find? (fun x => decide ((x.2 : Int) = k)) with | some x => x.1 | none => []) = R) ∧ W1 = wr) (fun _ _ _ j _ => 15 - (intOf j).toNat)
  case atStart => exact ⟨0, by omega, by go_num, HR, rfl⟩
  case round =>
    obtain ⟨i, hi, rfl, hu, rfl⟩ := hrel
    have b1 : (0 : Int) ≤ (i : Int) := Int.natCast_nonneg _
    by_cases hlt : i < 15
    · obtain ⟨x, hx⟩ := get_some (l := tellL) (n := 15) rfl hlt
      have hc6 : (i : Int) < 15 := by omega
      obtain ⟨t1, _⟩ := IsTxt.at (k := i) (m := x.1) R1.out (by rw [List.getElem?_map, hx]; rfl)
      have h1 := tell_one x (List.mem_iff_getElem?.2 ⟨i, hx⟩)
      have ON := Lib.hid (fun W => p_one h1.1 W)
      have hv := hu.out
      rw [find_drop1 hx] at hv
      obtain ⟨xt, xk⟩ := x
      simp only at hv t1 h1 ON
      rw [h1.2] at ON
      by_cases he : (xk : Int) = k
      · have e1 : ((xk : Int) == k) = true := by simpa using he
        rw [decide_eq_true he, if_pos rfl] at hv
        simp only at hv
        subst hv
        clear hu hx he h1
        go_wp2_with (first
          | (go_at_call 86; refine (ON.out _).mono ?_; rintro e w2 ⟨rfl, rfl⟩))
        go_ret
        exact ⟨rfl, B1.out⟩
      · have e1 : ((xk : Int) == k) = false := by simpa using he
        rw [decide_eq_false he, if_neg (by simp)] at hv
        have HV := Lib.hid hv
        clear hu hx he hv h1
        go_wp2_with (first
          | (go_at_call 86; refine (ON.out _).mono ?_; rintro e w2 ⟨rfl, rfl⟩))
        go_roundw
        case rel => exact ⟨i + 1, by omega, by go_num, HV, by first | rfl | trivial⟩
        case measure => simp [intOf]; omega
    · obtain rfl : i = 15 := by omega
      have hv : ([] : List Nat) = R := hu.out
      have djj : decide (((15 : Nat) : Int) < 15) = false := by decide
      clear hu hlt
      subst hv
      go_wp2_with fail
      go_ret
      exact ⟨rfl, B1.out⟩
end Go.Proofs.YtlenenfgedgmhaaDoor
