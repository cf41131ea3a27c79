/- Names: what the program's and the reference's functions answer. -/
import Derived.Test.YtdkoafmgenbkbaaDoorAmong
namespace Go.Proofs.YtdkoafmgenbkbaaDoor
set_option linter.unusedSimpArgs false
set_option linter.unusedVariables false
open Go.RowKit

theorem rightN_of {l : List Nat} {c : Nat} (h : l[0]? = some c) : rightN l = (decide (l.length ≤ 32) && letterN c && l.all furtherN) := by
  cases l with
  | nil => simp at h
  | cons a t => simp at h; subst h; rfl

theorem letter_any (n : Nat) (w : World) : Calls Tryd.prog 66 #[.int .u8 (n : Int)] w fun e w' => e = .returned (.bool (letterN n)) ∧ Quiet w w' := by
  by_cases h1 : 65 ≤ n
  · by_cases h2 : n ≤ 90
    · have hv : letterN n = true := by simp [letterN]; omega
      rw [hv]; clear hv
      go_enter Tryd.func66, Tryd.ntmps66
      go_wp2_with fail
      go_ret
      exact ⟨rfl, Quiet.refl _⟩
    · have a2 : decide ((n : Int) ≤ 90) = false := by simp; omega
      by_cases h3 : 97 ≤ n
      · by_cases h4 : n ≤ 122
        · have hv : letterN n = true := by simp [letterN]; omega
          have a4 : decide ((n : Int) ≤ 122) = true := by simp; omega
          rw [hv]; clear hv
          go_enter Tryd.func66, Tryd.ntmps66
          go_wp2_with fail
          go_ret
          exact ⟨rfl, Quiet.refl _⟩
        · have hv : letterN n = false := by simp [letterN]; omega
          have a4 : decide ((n : Int) ≤ 122) = false := by simp; omega
          rw [hv]; clear hv
          go_enter Tryd.func66, Tryd.ntmps66
          go_wp2_with fail
          go_ret
          exact ⟨rfl, Quiet.refl _⟩
      · have hv : letterN n = false := by simp [letterN]; omega
        have a3 : decide (97 ≤ (n : Int)) = false := by simp; omega
        rw [hv]; clear hv
        go_enter Tryd.func66, Tryd.ntmps66
        go_wp2_with fail
        go_ret
        exact ⟨rfl, Quiet.refl _⟩
  · have hv : letterN n = false := by simp [letterN]; omega
    have a1 : decide (65 ≤ (n : Int)) = false := by simp; omega
    have a3 : decide (97 ≤ (n : Int)) = false := by simp; omega
    have h3 : ¬ 97 ≤ n := by omega
    rw [hv]; clear hv
    go_enter Tryd.func66, Tryd.ntmps66
    go_wp2_with fail
    go_ret
    exact ⟨rfl, Quiet.refl _⟩
theorem letter_of (n : Nat) (b : Bool) (hb : letterN n = b) (w : World) : Calls Tryd.prog 66 #[.int .u8 (n : Int)] w fun e w' => e = .returned (.bool b) ∧ Quiet w w' := hb ▸ letter_any n w
theorem mem_let (c : Nat) (hc : c < 256) : decide (c ∈ bs ⟨#[65, 66, 67, 68, 69, 70, 71, 72, 73, 74, 75, 76, 77, 78, 79, 80, 81, 82, 83, 84, 85, 86, 87, 88, 89, 90, 97, 98, 99, 100, 101, 102, 103, 104, 105, 106, 107, 108, 109, 110, 111, 112, 113, 114, 115, 116, 117, 118, 119, 120, 121, 122]⟩) = letterN c := by
  have e : bs ⟨#[65, 66, 67, 68, 69, 70, 71, 72, 73, 74, 75, 76, 77, 78, 79, 80, 81, 82, 83, 84, 85, 86, 87, 88, 89, 90, 97, 98, 99, 100, 101, 102, 103, 104, 105, 106, 107, 108, 109, 110, 111, 112, 113, 114, 115, 116, 117, 118, 119, 120, 121, 122]⟩ = [65, 66, 67, 68, 69, 70, 71, 72, 73, 74, 75, 76, 77, 78, 79, 80, 81, 82, 83, 84, 85, 86, 87, 88, 89, 90, 97, 98, 99, 100, 101, 102, 103, 104, 105, 106, 107, 108, 109, 110, 111, 112, 113, 114, 115, 116, 117, 118, 119, 120, 121, 122] := rfl
  rw [e]
  have : ∀ c : Fin 256, decide (c.1 ∈ ([65, 66, 67, 68, 69, 70, 71, 72, 73, 74, 75, 76, 77, 78, 79, 80, 81, 82, 83, 84, 85, 86, 87, 88, 89, 90, 97, 98, 99, 100, 101, 102, 103, 104, 105, 106, 107, 108, 109, 110, 111, 112, 113, 114, 115, 116, 117, 118, 119, 120, 121, 122] : List Nat)) = letterN c.1 := by decide +kernel
  exact this ⟨c, hc⟩
theorem mem_fur (c : Nat) (hc : c < 256) : decide (c ∈ bs ⟨#[65, 66, 67, 68, 69, 70, 71, 72, 73, 74, 75, 76, 77, 78, 79, 80, 81, 82, 83, 84, 85, 86, 87, 88, 89, 90, 97, 98, 99, 100, 101, 102, 103, 104, 105, 106, 107, 108, 109, 110, 111, 112, 113, 114, 115, 116, 117, 118, 119, 120, 121, 122, 48, 49, 50, 51, 52, 53, 54, 55, 56, 57, 95]⟩) = furtherN c := by
  have e : bs ⟨#[65, 66, 67, 68, 69, 70, 71, 72, 73, 74, 75, 76, 77, 78, 79, 80, 81, 82, 83, 84, 85, 86, 87, 88, 89, 90, 97, 98, 99, 100, 101, 102, 103, 104, 105, 106, 107, 108, 109, 110, 111, 112, 113, 114, 115, 116, 117, 118, 119, 120, 121, 122, 48, 49, 50, 51, 52, 53, 54, 55, 56, 57, 95]⟩ = [65, 66, 67, 68, 69, 70, 71, 72, 73, 74, 75, 76, 77, 78, 79, 80, 81, 82, 83, 84, 85, 86, 87, 88, 89, 90, 97, 98, 99, 100, 101, 102, 103, 104, 105, 106, 107, 108, 109, 110, 111, 112, 113, 114, 115, 116, 117, 118, 119, 120, 121, 122, 48, 49, 50, 51, 52, 53, 54, 55, 56, 57, 95] := rfl
  rw [e]
  have : ∀ c : Fin 256, decide (c.1 ∈ ([65, 66, 67, 68, 69, 70, 71, 72, 73, 74, 75, 76, 77, 78, 79, 80, 81, 82, 83, 84, 85, 86, 87, 88, 89, 90, 97, 98, 99, 100, 101, 102, 103, 104, 105, 106, 107, 108, 109, 110, 111, 112, 113, 114, 115, 116, 117, 118, 119, 120, 121, 122, 48, 49, 50, 51, 52, 53, 54, 55, 56, 57, 95] : List Nat)) = furtherN c.1 := by decide +kernel
  exact this ⟨c, hc⟩
theorem let_of (c : Nat) (hc : c < 256) (b : Bool) (hb : letterN c = b) (w : World) : Calls Tryd.prog 67 #[.int .u8 (c : Int), .string ⟨#[65, 66, 67, 68, 69, 70, 71, 72, 73, 74, 75, 76, 77, 78, 79, 80, 81, 82, 83, 84, 85, 86, 87, 88, 89, 90, 97, 98, 99, 100, 101, 102, 103, 104, 105, 106, 107, 108, 109, 110, 111, 112, 113, 114, 115, 116, 117, 118, 119, 120, 121, 122]⟩] w fun e w' => e = .returned (.bool b) ∧ Quiet w w' := by
  have := among_any c ⟨#[65, 66, 67, 68, 69, 70, 71, 72, 73, 74, 75, 76, 77, 78, 79, 80, 81, 82, 83, 84, 85, 86, 87, 88, 89, 90, 97, 98, 99, 100, 101, 102, 103, 104, 105, 106, 107, 108, 109, 110, 111, 112, 113, 114, 115, 116, 117, 118, 119, 120, 121, 122]⟩ (by decide) w
  rwa [mem_let c hc, hb] at this
theorem fur_of (c : Nat) (hc : c < 256) (b : Bool) (hb : furtherN c = b) (w : World) : Calls Tryd.prog 67 #[.int .u8 (c : Int), .string ⟨#[65, 66, 67, 68, 69, 70, 71, 72, 73, 74, 75, 76, 77, 78, 79, 80, 81, 82, 83, 84, 85, 86, 87, 88, 89, 90, 97, 98, 99, 100, 101, 102, 103, 104, 105, 106, 107, 108, 109, 110, 111, 112, 113, 114, 115, 116, 117, 118, 119, 120, 121, 122, 48, 49, 50, 51, 52, 53, 54, 55, 56, 57, 95]⟩] w fun e w' => e = .returned (.bool b) ∧ Quiet w w' := by
  have := among_any c ⟨#[65, 66, 67, 68, 69, 70, 71, 72, 73, 74, 75, 76, 77, 78, 79, 80, 81, 82, 83, 84, 85, 86, 87, 88, 89, 90, 97, 98, 99, 100, 101, 102, 103, 104, 105, 106, 107, 108, 109, 110, 111, 112, 113, 114, 115, 116, 117, 118, 119, 120, 121, 122, 48, 49, 50, 51, 52, 53, 54, 55, 56, 57, 95]⟩ (by decide) w
  rwa [mem_fur c hc, hb] at this
theorem all_take {l : List Nat} {k c : Nat} (h : l[k]? = some c) (p : Nat → Bool) (h1 : (l.take k).all p = true) (h2 : p c = true) : (l.take (k + 1)).all p = true := by
  have hk := (List.getElem?_eq_some_iff.1 h).1
  rw [List.take_succ_eq_append_getElem hk, (List.getElem?_eq_some_iff.1 h).2, List.all_append, h1]
  simp [h2]
theorem all_no {l : List Nat} {k c : Nat} (h : l[k]? = some c) (p : Nat → Bool) (h2 : p c = false) : l.all p = false := by
  rw [List.all_eq_false]
  exact ⟨c, List.mem_iff_getElem?.2 ⟨k, h⟩, by simp [h2]⟩

set_option maxHeartbeats 2000000 in
theorem right_any (s : ByteArray) (hs : s.size ≤ maxLen) (w : World) : Calls Tryd.prog 36 #[.string s] w fun e w' => e = .returned (.bool (rightN (bs s))) ∧ Quiet w w' := by
  unfold maxLen at hs
  obtain ⟨n, hn⟩ : ∃ n, s.size = n := ⟨_, rfl⟩
  have Hn := Lib.hid hn
  have hln : (bs s).length = n := by rw [bs_len, hn]
  rw [hn] at hs
  have hn' : (s.size : Int) = (n : Int) := by rw [hn]
  clear hn
  by_cases h0 : n = 0
  · have hv : rightN (bs s) = false := by
      have : bs s = [] := List.eq_nil_of_length_eq_zero (by omega)
      rw [this]; rfl
    have HV := Lib.hid hv
    subst h0
    clear hv hln
    go_enter Tryd.func36, Tryd.ntmps36
    go_wp2_with fail
    go_ret
    exact ⟨by rw [HV.out]; rfl, Quiet.refl _⟩
  have h0' : ((n : Int) == 0) = false := by simp; omega
  obtain ⟨c0, hc0, c0256⟩ := get_bs (s := s) (k := 0) (by rw [Hn.out]; omega)
  have hr := rightN_of hc0
  have j0 := fun W => index_txt W 9 Tryd.underlying9 hc0 .i64 0 rfl
  have J0 := Lib.hid j0
  have Hc0 := Lib.hid hc0
  clear j0 hc0
  by_cases h32 : 32 < n
  · have hv : rightN (bs s) = false := by rw [hr, hln]; simp; omega
    have HV := Lib.hid hv
    have j0 := J0.out
    clear hv hln hr
    go_enter Tryd.func36, Tryd.ntmps36
    go_wp2_with fail
    go_ret
    exact ⟨by rw [HV.out]; rfl, Quiet.refl _⟩
  have h32' : decide (32 < (n : Int)) = false := by simp; omega
  rw [hln, show decide (n ≤ 32) = true by simp; omega, Bool.true_and] at hr
  rcases hl0 : letterN c0 with _ | _
  · have hv : rightN (bs s) = false := by rw [hr, hl0]; rfl
    have HV := Lib.hid hv
    have L0 := Lib.hid (fun W => letter_of c0 false hl0 W)
    have j0 := J0.out
    clear hv hln hr hl0
    go_enter Tryd.func36, Tryd.ntmps36
    go_wp2_with (go_at_call 66; refine (L0.out _).mono ?_; rintro e w1 ⟨rfl, q1⟩)
    go_ret
    exact ⟨by rw [HV.out]; rfl, q1⟩
  rw [hl0, Bool.true_and] at hr
  have L0 := Lib.hid (fun W => letter_of c0 true hl0 W)
  have Hr := Lib.hid hr
  have Hln := Lib.hid hln
  have Hfur0 := Lib.hid (show furtherN c0 = true by simp [furtherN, hl0])
  have j0 := J0.out
  clear hr hln hl0
  go_enter Tryd.func36, Tryd.ntmps36
  go_wp2_with (go_at_call 66; refine (L0.out _).mono ?_; rintro e w1 ⟨rfl, q1⟩)
  go_loopw [21] (fun i wr => ∃ k : Nat, 0 ≤ k ∧ k ≤ n ∧ i = .int .i64 k ∧ Hid (((bs s).take k).all furtherN = true) ∧ Quiet w wr) (fun i _ => n - (intOf i).toNat)
  case atStart => exact ⟨0, by omega, by omega, rfl, by simp [Hid], q1⟩
  case round =>
    obtain ⟨k, hk1, hk, rfl, hin, hq⟩ := hrel
    clear j0 q1
    have b0 : (0 : Int) ≤ (k : Int) := Int.natCast_nonneg _
    by_cases hlt : k < n
    · obtain ⟨c, hc, c256⟩ := get_bs (s := s) (k := k) (by rw [Hn.out]; exact hlt)
      have i1 := fun W => index_txt W 9 Tryd.underlying9 hc .i64 _ rfl

      have hcase : (letterN c = true ∧ furtherN c = true) ∨ (letterN c = false ∧ furtherN c = true ∧ 48 ≤ c ∧ c ≤ 57) ∨ (letterN c = false ∧ furtherN c = true ∧ 57 < c ∧ c = 95) ∨ (letterN c = false ∧ furtherN c = false ∧ c < 48 ∧ c ≠ 95) ∨ (letterN c = false ∧ furtherN c = false ∧ 57 < c ∧ c ≠ 95) := by
        rcases h : letterN c with _ | _
        · have e : furtherN c = decide ((48 ≤ c ∧ c ≤ 57) ∨ c = 95) := by simp [furtherN, h]
          rw [e]
          by_cases h1 : c < 48
          · right; right; right; left; refine ⟨rfl, ?_, h1, by omega⟩; simp; omega
          · by_cases h2 : c ≤ 57
            · right; left; refine ⟨rfl, ?_, by omega, h2⟩; simp; omega
            · by_cases h3 : c = 95
              · right; right; left; refine ⟨rfl, ?_, by omega, h3⟩; simp; omega
              · right; right; right; right; refine ⟨rfl, ?_, by omega, h3⟩; simp; omega
        · left; exact ⟨rfl, by simp [furtherN, h]⟩
      rcases hcase with ⟨hl, hf⟩ | ⟨hl, hf, x1, x2⟩ | ⟨hl, hf, x1, x2⟩ | ⟨hl, hf, x1, x2⟩ | ⟨hl, hf, x1, x2⟩
      · have L1 := Lib.hid (fun W => letter_of c true hl W)
        have HN := Lib.hid (all_take hc furtherN hin.out hf)
        clear hc hf hl
        go_wp2_with (go_at_call 66; refine (L1.out _).mono ?_; rintro e w2 ⟨rfl, q2⟩)
        go_roundw
        case rel => exact ⟨k + 1, by omega, by omega, by go_num, HN.out, hq.trans q2⟩
        case measure => simp [intOf]; omega
      · have L1 := Lib.hid (fun W => letter_of c false hl W)
        have y1 : decide ((c : Int) < 48) = false := by simp; omega
        have y2 : decide (57 < (c : Int)) = false := by simp; omega
        have HN := Lib.hid (all_take hc furtherN hin.out hf)
        clear hc hf hl
        go_wp2_with (go_at_call 66; refine (L1.out _).mono ?_; rintro e w2 ⟨rfl, q2⟩)
        go_roundw
        case rel => exact ⟨k + 1, by omega, by omega, by go_num, HN.out, hq.trans q2⟩
        case measure => simp [intOf]; omega
      · have L1 := Lib.hid (fun W => letter_of c false hl W)
        have y1 : decide ((c : Int) < 48) = false := by simp; omega
        have y3 : ((c : Int) != 95) = false := by simp; omega
        have HN := Lib.hid (all_take hc furtherN hin.out hf)
        clear hc hf hl x2
        go_wp2_with (go_at_call 66; refine (L1.out _).mono ?_; rintro e w2 ⟨rfl, q2⟩)
        go_roundw
        case rel => exact ⟨k + 1, by omega, by omega, by go_num, HN.out, hq.trans q2⟩
        case measure => simp [intOf]; omega
      · have L1 := Lib.hid (fun W => letter_of c false hl W)
        have y3 : ((c : Int) != 95) = true := by simp; omega
        have HV : Hid (rightN (bs s) = false) := Lib.hid (by rw [Hr.out]; exact all_no hc furtherN hf)
        clear hc hf hl x2
        go_wp2_with (go_at_call 66; refine (L1.out _).mono ?_; rintro e w2 ⟨rfl, q2⟩)
        go_ret
        exact ⟨by rw [HV.out]; rfl, hq.trans q2⟩
      · have L1 := Lib.hid (fun W => letter_of c false hl W)
        have y1 : decide ((c : Int) < 48) = false := by simp; omega
        have y3 : ((c : Int) != 95) = true := by simp; omega
        have HV : Hid (rightN (bs s) = false) := Lib.hid (by rw [Hr.out]; exact all_no hc furtherN hf)
        clear hc hf hl x2
        go_wp2_with (go_at_call 66; refine (L1.out _).mono ?_; rintro e w2 ⟨rfl, q2⟩)
        go_ret
        exact ⟨by rw [HV.out]; rfl, hq.trans q2⟩
    · have hdec : decide (k < n) = false := by simp; omega
      have HV : Hid (rightN (bs s) = true) := Lib.hid (by
        have := hin.out
        rw [List.take_of_length_le (by rw [Hln.out]; omega)] at this
        rw [Hr.out]; exact this)
      go_wp2_with fail
      go_ret
      exact ⟨by rw [HV.out]; rfl, hq⟩

set_option maxHeartbeats 2000000 in
theorem ref_right (s : ByteArray) (hs : s.size ≤ maxLen) (w : World) : Calls Tryd.prog 41 #[.string s] w fun e w' => e = .returned (.bool (rightN (bs s))) ∧ Quiet w w' := by
  unfold maxLen at hs
  obtain ⟨n, hn⟩ : ∃ n, s.size = n := ⟨_, rfl⟩
  have Hn := Lib.hid hn
  have hln : (bs s).length = n := by rw [bs_len, hn]
  rw [hn] at hs
  have hn' : (s.size : Int) = (n : Int) := by rw [hn]
  clear hn
  by_cases h0 : n = 0
  · have hv : rightN (bs s) = false := by
      have : bs s = [] := List.eq_nil_of_length_eq_zero (by omega)
      rw [this]; rfl
    have HV := Lib.hid hv
    subst h0
    clear hv hln
    go_enter Tryd.func41, Tryd.ntmps41
    go_wp2_with fail
    go_ret
    exact ⟨by rw [HV.out]; rfl, Quiet.refl _⟩
  have h0' : ((n : Int) == 0) = false := by simp; omega
  obtain ⟨c0, hc0, c0256⟩ := get_bs (s := s) (k := 0) (by rw [Hn.out]; omega)
  have hr := rightN_of hc0
  have j0 := fun W => index_txt W 9 Tryd.underlying9 hc0 .i64 0 rfl
  have J0 := Lib.hid j0
  have Hc0 := Lib.hid hc0
  clear j0 hc0
  by_cases h32 : 32 < n
  · have hv : rightN (bs s) = false := by rw [hr, hln]; simp; omega
    have HV := Lib.hid hv
    have j0 := J0.out
    clear hv hln hr
    go_enter Tryd.func41, Tryd.ntmps41
    go_wp2_with fail
    go_ret
    exact ⟨by rw [HV.out]; rfl, Quiet.refl _⟩
  have h32' : decide (32 < (n : Int)) = false := by simp; omega
  rw [hln, show decide (n ≤ 32) = true by simp; omega, Bool.true_and] at hr
  rcases hl0 : letterN c0 with _ | _
  · have hv : rightN (bs s) = false := by rw [hr, hl0]; rfl
    have HV := Lib.hid hv
    have L0 := Lib.hid (fun W => let_of c0 c0256 false hl0 W)
    have j0 := J0.out
    clear hv hln hr hl0
    go_enter Tryd.func41, Tryd.ntmps41
    go_wp2_with (go_at_call 67; refine (L0.out _).mono ?_; rintro e w1 ⟨rfl, q1⟩)
    go_ret
    exact ⟨by rw [HV.out]; rfl, q1⟩
  rw [hl0, Bool.true_and] at hr
  have L0 := Lib.hid (fun W => let_of c0 c0256 true hl0 W)
  have Hr := Lib.hid hr
  have Hln := Lib.hid hln
  have Hfur0 := Lib.hid (show furtherN c0 = true by simp [furtherN, hl0])
  have j0 := J0.out
  clear hr hln hl0
  go_enter Tryd.func41, Tryd.ntmps41
  go_wp2_with (go_at_call 67; refine (L0.out _).mono ?_; rintro e w1 ⟨rfl, q1⟩)
  go_loopw [3] (fun i wr => ∃ k : Nat, 1 ≤ k ∧ k ≤ n ∧ i = .int .i64 k ∧ Hid (((bs s).take k).all furtherN = true) ∧ Quiet w wr) (fun i _ => n - (intOf i).toNat)
  case atStart => exact ⟨1, by omega, by omega, rfl, all_take Hc0.out furtherN (by simp) Hfur0.out, q1⟩
  case round =>
    obtain ⟨k, hk1, hk, rfl, hin, hq⟩ := hrel
    clear j0 q1
    have b0 : (0 : Int) ≤ (k : Int) := Int.natCast_nonneg _
    by_cases hlt : k < n
    · obtain ⟨c, hc, c256⟩ := get_bs (s := s) (k := k) (by rw [Hn.out]; exact hlt)
      have i1 := fun W => index_txt W 9 Tryd.underlying9 hc .i64 _ rfl

      rcases hf : furtherN c with _ | _
      · have hv : rightN (bs s) = false := by rw [Hr.out]; exact all_no hc furtherN hf
        have HV := Lib.hid hv
        have L1 := Lib.hid (fun W => fur_of c c256 false hf W)
        clear hv hc hf
        go_wp2_with (go_at_call 67; refine (L1.out _).mono ?_; rintro e w2 ⟨rfl, q2⟩)
        go_ret
        exact ⟨by rw [HV.out]; rfl, hq.trans q2⟩
      · have hnew := all_take hc furtherN hin.out hf
        have HN := Lib.hid hnew
        have L1 := Lib.hid (fun W => fur_of c c256 true hf W)
        clear hnew hc hf
        go_wp2_with (go_at_call 67; refine (L1.out _).mono ?_; rintro e w2 ⟨rfl, q2⟩)
        go_roundw
        case rel => exact ⟨k + 1, by omega, by omega, by go_num, HN.out, hq.trans q2⟩
        case measure => simp [intOf]; omega
    · have hdec : decide (k < n) = false := by simp; omega
      have HV : Hid (rightN (bs s) = true) := Lib.hid (by
        have := hin.out
        rw [List.take_of_length_le (by rw [Hln.out]; omega)] at this
        rw [Hr.out]; exact this)
      go_wp2_with fail
      go_ret
      exact ⟨by rw [HV.out]; rfl, hq⟩

end Go.Proofs.YtdkoafmgenbkbaaDoor
