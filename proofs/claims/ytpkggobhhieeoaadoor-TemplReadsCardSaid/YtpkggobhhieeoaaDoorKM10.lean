/- - - - -/
import Derived.Test.YtpkggobhhieeoaaDoorKM4
import Derived.Test.YtpkggobhhieeoaaDoorKM8
set_option maxRecDepth 100000
set_option maxHeartbeats 32000000
set_option linter.unusedSimpArgs false
set_option linter.unusedVariables false
namespace Go.Proofs.YtpkggobhhieeoaaDoor
open Go.RowKit
theorem rightN_of {l : List Nat} {c : Nat} (h : l[0]? = some c) : rightN l = (decide (l.length ≤ 32) && letterN c && l.all furtherN) := by
  cases l with
  | nil => simp at h
  | cons a t => simp at h; subst h; rfl
theorem letter_any (n : Nat) (w : World) : Calls Tryd.prog 52 #[.int .u8 (n : Int)] w fun e w' => e = .returned (.bool (letterN n)) ∧ Quiet w w' := by
  by_cases h1 : 65 ≤ n
  · by_cases h2 : n ≤ 90
    · have hv : letterN n = true := by simp [letterN]; omega
      rw [hv]; clear hv
      go_enter Tryd.func52, Tryd.ntmps52
      go_wp2_with fail
      go_ret
      exact ⟨rfl, Quiet.refl _⟩
    · have a2 : decide ((n : Int) ≤ 90) = false := by simp; omega
      by_cases h3 : 97 ≤ n
      · by_cases h4 : n ≤ 122
        · have hv : letterN n = true := by simp [letterN]; omega
          have a4 : decide ((n : Int) ≤ 122) = true := by simp; omega
          rw [hv]; clear hv
          go_enter Tryd.func52, Tryd.ntmps52
          go_wp2_with fail
          go_ret
          exact ⟨rfl, Quiet.refl _⟩
        · have hv : letterN n = false := by simp [letterN]; omega
          have a4 : decide ((n : Int) ≤ 122) = false := by simp; omega
          rw [hv]; clear hv
          go_enter Tryd.func52, Tryd.ntmps52
          go_wp2_with fail
          go_ret
          exact ⟨rfl, Quiet.refl _⟩
      · have hv : letterN n = false := by simp [letterN]; omega
        have a3 : decide (97 ≤ (n : Int)) = false := by simp; omega
        rw [hv]; clear hv
        go_enter Tryd.func52, Tryd.ntmps52
        go_wp2_with fail
        go_ret
        exact ⟨rfl, Quiet.refl _⟩
  · have hv : letterN n = false := by simp [letterN]; omega
    have a1 : decide (65 ≤ (n : Int)) = false := by simp; omega
    have a3 : decide (97 ≤ (n : Int)) = false := by simp; omega
    have h3 : ¬ 97 ≤ n := by omega
    rw [hv]; clear hv
    go_enter Tryd.func52, Tryd.ntmps52
    go_wp2_with fail
    go_ret
    exact ⟨rfl, Quiet.refl _⟩
theorem letter_of (n : Nat) (b : Bool) (hb : letterN n = b) (w : World) : Calls Tryd.prog 52 #[.int .u8 (n : Int)] w fun e w' => e = .returned (.bool b) ∧ Quiet w w' := hb ▸ letter_any n w
theorem mem_let (c : Nat) (hc : c < 256) : decide (c ∈ bs ⟨#[65, 66, 67, 68, 69, 70, 71, 72, 73, 74, 75, 76, 77, 78, 79, 80, 81, 82, 83, 84, 85, 86, 87, 88, 89, 90, 97, 98, 99, 100, 101, 102, 103, 104, 105, 106, 107, 108, 109, 110, 111, 112, 113, 114, 115, 116, 117, 118, 119, 120, 121, 122]⟩) = letterN c := by
  have e : bs ⟨#[65, 66, 67, 68, 69, 70, 71, 72, 73, 74, 75, 76, 77, 78, 79, 80, 81, 82, 83, 84, 85, 86, 87, 88, 89, 90, 97, 98, 99, 100, 101, 102, 103, 104, 105, 106, 107, 108, 109, 110, 111, 112, 113, 114, 115, 116, 117, 118, 119, 120, 121, 122]⟩ = [65, 66, 67, 68, 69, 70, 71, 72, 73, 74, 75, 76, 77, 78, 79, 80, 81, 82, 83, 84, 85, 86, 87, 88, 89, 90, 97, 98, 99, 100, 101, 102, 103, 104, 105, 106, 107, 108, 109, 110, 111, 112, 113, 114, 115, 116, 117, 118, 119, 120, 121, 122] := rfl
  rw [e]
  have : ∀ c : Fin 256, decide (c.1 ∈ ([65, 66, 67, 68, 69, 70, 71, 72, 73, 74, 75, 76, 77, 78, 79, 80, 81, 82, 83, 84, 85, 86, 87, 88, 89, 90, 97, 98, 99, 100, 101, 102, 103, 104, 105, 106, 107, 108, 109, 110, 111, 112, 113, 114, 115, 116, 117, 118, 119, 120, 121, 122] : List Nat)) = letterN c.1 := by decide +kernel
  exact this ⟨c, hc⟩
theorem mem_fur (c : Nat) (hc : c < 256) : decide (c ∈ bs ⟨#[65, 66, 67, 68, 69, 70, 71, 72, 73, 74, 75, 76, 77, 78, 79, 80, 81, 82, 83, 84, 85, 86, 87, 88, 89, 90, 97, 98, 99, 100, 101, 102, 103, 104, 105, 106, 107, 108, 109, 110, 111, 112, 113, 114, 115, 116, 117, 118, 119, 120, 121, 122, 48, 49, 50, 51, 52, 53, 54, 55, 56, 57, 95]⟩) = furtherN c := by
  have e : bs ⟨#[65, 66, 67, 68, 69, 70, 71, 72, 73, 74, 75, 76, 77, 78, 79, 80, 81, 82, 83, 84, 85, 86, 87, 88, 89, 90, 97, 98, 99, 100, 101, 102, 103, 104, 105, 106, 107, 108, 109, 110, 111, 112, 113, 114, 115, 116, 117, 118, 119, 120, 121, 122, 48, 49, 50, 51, 52, 53, 54, 55, 56, 57, 95]⟩ = [65, 66, 67, 68, 69, 70, 71, 72, 73, 74, 75, 76, 77, 78, 79, 80, 81, 82, 83, 84, 85, 86, 87, 88, 89, 90, 97, 98, 99, 100, 101, 102, 103, 104, 105, 106, 107, 108, 109, 110, 111, 112, 113, 114, 115, 116, 117, 118, 119, 120, 121, 122, 48, 49, 50, 51, 52, 53, 54, 55, 56, 57, 95] := rfl
  rw [e]
  have : ∀ c : Fin 256, decide (c.1 ∈ ([65, 66, 67, 68, 69, 70, 71, 72, 73, 74, 75, 76, 77, 78, 79, 80, 81, 82, 83, 84, 85, 86, 87, 88, 89, 90, 97, 98, 99, 100, 101, 102, 103, 104, 105, 106, 107, 108, 109, 110, 111, 112, 113, 114, 115, 116, 117, 118, 119, 120, 121, 122, 48, 49, 50, 51, 52, 53, 54, 55, 56, 57, 95] : List Nat)) = furtherN c.1 := by decide +kernel
  exact this ⟨c, hc⟩
theorem let_of (c : Nat) (hc : c < 256) (b : Bool) (hb : letterN c = b) (w : World) : Calls Tryd.prog 59 #[.int .u8 (c : Int), .string ⟨#[65, 66, 67, 68, 69, 70, 71, 72, 73, 74, 75, 76, 77, 78, 79, 80, 81, 82, 83, 84, 85, 86, 87, 88, 89, 90, 97, 98, 99, 100, 101, 102, 103, 104, 105, 106, 107, 108, 109, 110, 111, 112, 113, 114, 115, 116, 117, 118, 119, 120, 121, 122]⟩] w fun e w' => e = .returned (.bool b) ∧ Quiet w w' := by
  have := among_any c ⟨#[65, 66, 67, 68, 69, 70, 71, 72, 73, 74, 75, 76, 77, 78, 79, 80, 81, 82, 83, 84, 85, 86, 87, 88, 89, 90, 97, 98, 99, 100, 101, 102, 103, 104, 105, 106, 107, 108, 109, 110, 111, 112, 113, 114, 115, 116, 117, 118, 119, 120, 121, 122]⟩ (by decide) w
  rwa [mem_let c hc, hb] at this
theorem fur_of (c : Nat) (hc : c < 256) (b : Bool) (hb : furtherN c = b) (w : World) : Calls Tryd.prog 59 #[.int .u8 (c : Int), .string ⟨#[65, 66, 67, 68, 69, 70, 71, 72, 73, 74, 75, 76, 77, 78, 79, 80, 81, 82, 83, 84, 85, 86, 87, 88, 89, 90, 97, 98, 99, 100, 101, 102, 103, 104, 105, 106, 107, 108, 109, 110, 111, 112, 113, 114, 115, 116, 117, 118, 119, 120, 121, 122, 48, 49, 50, 51, 52, 53, 54, 55, 56, 57, 95]⟩] w fun e w' => e = .returned (.bool b) ∧ Quiet w w' := by
  have := among_any c ⟨#[65, 66, 67, 68, 69, 70, 71, 72, 73, 74, 75, 76, 77, 78, 79, 80, 81, 82, 83, 84, 85, 86, 87, 88, 89, 90, 97, 98, 99, 100, 101, 102, 103, 104, 105, 106, 107, 108, 109, 110, 111, 112, 113, 114, 115, 116, 117, 118, 119, 120, 121, 122, 48, 49, 50, 51, 52, 53, 54, 55, 56, 57, 95]⟩ (by decide) w
  rwa [mem_fur c hc, hb] at this
theorem all_take {l : List Nat} {k c : Nat} (h : l[k]? = some c) (p : Nat → Bool) (h1 : (l.take k).all p = true) (h2 : p c = true) : (l.take (k + 1)).all p = true := by
  have hk := (List.getElem?_eq_some_iff.1 h).1
  rw [List.take_succ_eq_append_getElem hk, (List.getElem?_eq_some_iff.1 h).2, List.all_append, h1]
  simp [h2]
theorem all_no {l : List Nat} {k c : Nat} (h : l[k]? = some c) (p : Nat → Bool) (h2 : p c = false) : l.all p = false := by
  rw [List.all_eq_false]
  exact ⟨c, List.mem_iff_getElem?.2 ⟨k, h⟩, by simp [h2]⟩
theorem right_any (s : ByteArray) (hs : s.size ≤ maxLen) (w : World) : Calls Tryd.prog 38 #[.string s] w fun e w' => e = .returned (.bool (rightN (bs s))) ∧ Quiet w w' := by
  unfold maxLen at hs
  obtain ⟨n, hn⟩ : ∃ n, s.size = n := ⟨_, rfl⟩
  have Hn := zH hn
  have hln : (bs s).length = n := by rw [bs_len, hn]
  rw [hn] at hs
  have hn' : (s.size : Int) = (n : Int) := by rw [hn]
  clear hn
  by_cases h0 : n = 0
  · have hv : rightN (bs s) = false := by
      have : bs s = [] := List.eq_nil_of_length_eq_zero (by omega)
      rw [this]; rfl
    have HV := zH hv
    subst h0
    clear hv hln
    go_enter Tryd.func38, Tryd.ntmps38
    go_wp2_with fail
    go_ret
    exact ⟨by rw [HV.out]; rfl, Quiet.refl _⟩
  have h0' : ((n : Int) == 0) = false := by simp; omega
  obtain ⟨c0, hc0, c0256⟩ := get_bs (s := s) (k := 0) (by rw [Hn.out]; omega)
  have hr := rightN_of hc0
  have j0 := fun W => index_txt W 9 Tryd.underlying9 hc0 .i64 0 rfl
  have J0 := zH j0
  have Hc0 := zH hc0
  clear j0 hc0
  by_cases h32 : 32 < n
  · have hv : rightN (bs s) = false := by rw [hr, hln]; simp; omega
    have HV := zH hv
    have j0 := J0.out
    clear hv hln hr
    go_enter Tryd.func38, Tryd.ntmps38
    go_wp2_with fail
    go_ret
    exact ⟨by rw [HV.out]; rfl, Quiet.refl _⟩
  have h32' : decide (32 < (n : Int)) = false := by simp; omega
  rw [hln, show decide (n ≤ 32) = true by simp; omega, Bool.true_and] at hr
  rcases hl0 : letterN c0 with _ | _
  · have hv : rightN (bs s) = false := by rw [hr, hl0]; rfl
    have HV := zH hv
    have L0 := zH (fun W => letter_of c0 false hl0 W)
    have j0 := J0.out
    clear hv hln hr hl0
    go_enter Tryd.func38, Tryd.ntmps38
    go_wp2_with (go_at_call 52; refine (L0.out _).mono ?_; rintro e w1 ⟨rfl, q1⟩)
    go_ret
    exact ⟨by rw [HV.out]; rfl, q1⟩
  rw [hl0, Bool.true_and] at hr
  have L0 := zH (fun W => letter_of c0 true hl0 W)
  have Hr := zH hr
  have Hln := zH hln
  have Hfur0 := zH (show furtherN c0 = true by simp [furtherN, hl0])
  have j0 := J0.out
  clear hr hln hl0
  go_enter Tryd.func38, Tryd.ntmps38
  go_wp2_with (go_at_call 52; refine (L0.out _).mono ?_; rintro e w1 ⟨rfl, q1⟩)
  go_loopw [21] (fun i wr => ∃ k : Nat, 0 ≤ k ∧ k ≤ n ∧ i = .int .i64 k ∧ Hid (((bs s).take k).all furtherN = true) ∧ Quiet w wr) (fun i _ => n - (intOf i).toNat)
  case atStart => exact ⟨0, by omega, by omega, rfl, by simp [Hid], q1⟩
  case round =>
    obtain ⟨k, hk1, hk, rfl, hin, hq⟩ := hrel
    clear j0 q1
    have b0 : (0 : Int) ≤ (k : Int) := Int.natCast_nonneg _
    by_cases hlt : k < n
    · obtain ⟨c, hc, c256⟩ := get_bs (s := s) (k := k) (by rw [Hn.out]; exact hlt)
      have i1 := fun W => index_txt W 9 Tryd.underlying9 hc .i64 _ rfl
      have hcase : (letterN c = true ∧ furtherN c = true) ∨ (letterN c = false ∧ furtherN c = true ∧ 48 ≤ c ∧ c ≤ 57) ∨ (letterN c = false ∧ furtherN c = true ∧ 57 < c ∧ c = 95) ∨ (letterN c = false ∧ furtherN c = false ∧ c < 48 ∧ c ≠ 95) ∨ (letterN c = false ∧ furtherN c = false ∧ 57 < c ∧ c ≠ 95) := by
        rcases h : letterN c with _ | _
        · have e : furtherN c = decide ((48 ≤ c ∧ c ≤ 57) ∨ c = 95) := by simp [furtherN, h]
          rw [e]
          by_cases h1 : c < 48
          · right; right; right; left; refine ⟨rfl, ?_, h1, by omega⟩; simp; omega
          · by_cases h2 : c ≤ 57
            · right; left; refine ⟨rfl, ?_, by omega, h2⟩; simp; omega
            · by_cases h3 : c = 95
              · right; right; left; refine ⟨rfl, ?_, by omega, h3⟩; simp; omega
              · right; right; right; right; refine ⟨rfl, ?_, by omega, h3⟩; simp; omega
        · left; exact ⟨rfl, by simp [furtherN, h]⟩
      rcases hcase with ⟨hl, hf⟩ | ⟨hl, hf, x1, x2⟩ | ⟨hl, hf, x1, x2⟩ | ⟨hl, hf, x1, x2⟩ | ⟨hl, hf, x1, x2⟩
      · have L1 := zH (fun W => letter_of c true hl W)
        have HN := zH (all_take hc furtherN hin.out hf)
        clear hc hf hl
        go_wp2_with (go_at_call 52; refine (L1.out _).mono ?_; rintro e w2 ⟨rfl, q2⟩)
        go_roundw
        case rel => exact ⟨k + 1, by omega, by omega, by go_num, HN.out, hq.trans q2⟩
        case measure => simp [intOf]; omega
      · have L1 := zH (fun W => letter_of c false hl W)
        have y1 : decide ((c : Int) < 48) = false := by simp; omega
        have y2 : decide (57 < (c : Int)) = false := by simp; omega
        have HN := zH (all_take hc furtherN hin.out hf)
        clear hc hf hl
        go_wp2_with (go_at_call 52; refine (L1.out _).mono ?_; rintro e w2 ⟨rfl, q2⟩)
        go_roundw
        case rel => exact ⟨k + 1, by omega, by omega, by go_num, HN.out, hq.trans q2⟩
        case measure => simp [intOf]; omega
      · have L1 := zH (fun W => letter_of c false hl W)
        have y1 : decide ((c : Int) < 48) = false := by simp; omega
        have y3 : ((c : Int) != 95) = false := by simp; omega
        have HN := zH (all_take hc furtherN hin.out hf)
        clear hc hf hl x2
        go_wp2_with (go_at_call 52; refine (L1.out _).mono ?_; rintro e w2 ⟨rfl, q2⟩)
        go_roundw
        case rel => exact ⟨k + 1, by omega, by omega, by go_num, HN.out, hq.trans q2⟩
        case measure => simp [intOf]; omega
      · have L1 := zH (fun W => letter_of c false hl W)
        have y3 : ((c : Int) != 95) = true := by simp; omega
        have HV : Hid (rightN (bs s) = false) := zH (by rw [Hr.out]; exact all_no hc furtherN hf)
        clear hc hf hl x2
        go_wp2_with (go_at_call 52; refine (L1.out _).mono ?_; rintro e w2 ⟨rfl, q2⟩)
        go_ret
        exact ⟨by rw [HV.out]; rfl, hq.trans q2⟩
      · have L1 := zH (fun W => letter_of c false hl W)
        have y1 : decide ((c : Int) < 48) = false := by simp; omega
        have y3 : ((c : Int) != 95) = true := by simp; omega
        have HV : Hid (rightN (bs s) = false) := zH (by rw [Hr.out]; exact all_no hc furtherN hf)
        clear hc hf hl x2
        go_wp2_with (go_at_call 52; refine (L1.out _).mono ?_; rintro e w2 ⟨rfl, q2⟩)
        go_ret
        exact ⟨by rw [HV.out]; rfl, hq.trans q2⟩
    · have hdec : decide (k < n) = false := by simp; omega
      have HV : Hid (rightN (bs s) = true) := zH (by
        have := hin.out
        rw [List.take_of_length_le (by rw [Hln.out]; omega)] at this
        rw [Hr.out]; exact this)
      go_wp2_with fail
      go_ret
      exact ⟨by rw [HV.out]; rfl, hq⟩
theorem ref_right (s : ByteArray) (hs : s.size ≤ maxLen) (w : World) : Calls Tryd.prog 42 #[.string s] w fun e w' => e = .returned (.bool (rightN (bs s))) ∧ Quiet w w' := by
  unfold maxLen at hs
  obtain ⟨n, hn⟩ : ∃ n, s.size = n := ⟨_, rfl⟩
  have Hn := zH hn
  have hln : (bs s).length = n := by rw [bs_len, hn]
  rw [hn] at hs
  have hn' : (s.size : Int) = (n : Int) := by rw [hn]
  clear hn
  by_cases h0 : n = 0
  · have hv : rightN (bs s) = false := by
      have : bs s = [] := List.eq_nil_of_length_eq_zero (by omega)
      rw [this]; rfl
    have HV := zH hv
    subst h0
    clear hv hln
    go_enter Tryd.func42, Tryd.ntmps42
    go_wp2_with fail
    go_ret
    exact ⟨by rw [HV.out]; rfl, Quiet.refl _⟩
  have h0' : ((n : Int) == 0) = false := by simp; omega
  obtain ⟨c0, hc0, c0256⟩ := get_bs (s := s) (k := 0) (by rw [Hn.out]; omega)
  have hr := rightN_of hc0
  have j0 := fun W => index_txt W 9 Tryd.underlying9 hc0 .i64 0 rfl
  have J0 := zH j0
  have Hc0 := zH hc0
  clear j0 hc0
  by_cases h32 : 32 < n
  · have hv : rightN (bs s) = false := by rw [hr, hln]; simp; omega
    have HV := zH hv
    have j0 := J0.out
    clear hv hln hr
    go_enter Tryd.func42, Tryd.ntmps42
    go_wp2_with fail
    go_ret
    exact ⟨by rw [HV.out]; rfl, Quiet.refl _⟩
  have h32' : decide (32 < (n : Int)) = false := by simp; omega
  rw [hln, show decide (n ≤ 32) = true by simp; omega, Bool.true_and] at hr
  rcases hl0 : letterN c0 with _ | _
  · have hv : rightN (bs s) = false := by rw [hr, hl0]; rfl
    have HV := zH hv
    have L0 := zH (fun W => let_of c0 c0256 false hl0 W)
    have j0 := J0.out
    clear hv hln hr hl0
    go_enter Tryd.func42, Tryd.ntmps42
    go_wp2_with (go_at_call 59; refine (L0.out _).mono ?_; rintro e w1 ⟨rfl, q1⟩)
    go_ret
    exact ⟨by rw [HV.out]; rfl, q1⟩
  rw [hl0, Bool.true_and] at hr
  have L0 := zH (fun W => let_of c0 c0256 true hl0 W)
  have Hr := zH hr
  have Hln := zH hln
  have Hfur0 := zH (show furtherN c0 = true by simp [furtherN, hl0])
  have j0 := J0.out
  clear hr hln hl0
  go_enter Tryd.func42, Tryd.ntmps42
  go_wp2_with (go_at_call 59; refine (L0.out _).mono ?_; rintro e w1 ⟨rfl, q1⟩)
  go_loopw [3] (fun i wr => ∃ k : Nat, 1 ≤ k ∧ k ≤ n ∧ i = .int .i64 k ∧ Hid (((bs s).take k).all furtherN = true) ∧ Quiet w wr) (fun i _ => n - (intOf i).toNat)
  case atStart => exact ⟨1, by omega, by omega, rfl, all_take Hc0.out furtherN (by simp) Hfur0.out, q1⟩
  case round =>
    obtain ⟨k, hk1, hk, rfl, hin, hq⟩ := hrel
    clear j0 q1
    have b0 : (0 : Int) ≤ (k : Int) := Int.natCast_nonneg _
    by_cases hlt : k < n
    · obtain ⟨c, hc, c256⟩ := get_bs (s := s) (k := k) (by rw [Hn.out]; exact hlt)
      have i1 := fun W => index_txt W 9 Tryd.underlying9 hc .i64 _ rfl
      rcases hf : furtherN c with _ | _
      · have hv : rightN (bs s) = false := by rw [Hr.out]; exact all_no hc furtherN hf
        have HV := zH hv
        have L1 := zH (fun W => fur_of c c256 false hf W)
        clear hv hc hf
        go_wp2_with (go_at_call 59; refine (L1.out _).mono ?_; rintro e w2 ⟨rfl, q2⟩)
        go_ret
        exact ⟨by rw [HV.out]; rfl, hq.trans q2⟩
      · have hnew := all_take hc furtherN hin.out hf
        have HN := zH hnew
        have L1 := zH (fun W => fur_of c c256 true hf W)
        clear hnew hc hf
        go_wp2_with (go_at_call 59; refine (L1.out _).mono ?_; rintro e w2 ⟨rfl, q2⟩)
        go_roundw
        case rel => exact ⟨k + 1, by omega, by omega, by go_num, HN.out, hq.trans q2⟩
        case measure => simp [intOf]; omega
    · have hdec : decide (k < n) = false := by simp; omega
      have HV : Hid (rightN (bs s) = true) := zH (by
        have := hin.out
        rw [List.take_of_length_le (by rw [Hln.out]; omega)] at this
        rw [Hr.out]; exact this)
      go_wp2_with fail
      go_ret
      exact ⟨by rw [HV.out]; rfl, hq⟩
end Go.Proofs.YtpkggobhhieeoaaDoor
namespace Go.Proofs.YtpkggobhhieeoaaDoor
open Go.RowKit
section
variable {q : Nat} {a : Option Addr} {c sz : Nat} {l : List Tok} {i : Nat} {bad : Int} {es : List (EN × Value)} {X : World}
theorem r_stop_bad (hbad : 0 ≤ bad) (h : RSt q a c sz l i bad es X) : Calls Tryd.prog 47 #[.pointer (some ⟨q, 0, none⟩)] X fun e w' => e = .returned (.int .i64 0) ∧ w' = X := by
  obtain ⟨f0, f1, f2, f3, f4, f5, f6⟩ := h.facts
  have d0 : decide (bad < 0) = false := by simp; omega
  clear h f4 f5
  go_enter Tryd.func47, Tryd.ntmps47
  go_wp2_with fail
  go_ret
  exact ⟨rfl, rfl⟩
theorem r_stop (h : RSt q a c sz l i (-1) es X) : Calls Tryd.prog 47 #[.pointer (some ⟨q, 0, none⟩)] X fun e w' => e = .returned (.int .i64 0) ∧ Below q X w' ∧ RSt q a c sz l i (placeAt l sz i) es w' := by
  obtain ⟨f0, f1, f2, f3, f4, f5, f6⟩ := h.facts
  obtain ⟨n, hn⟩ : ∃ n, l.length = n := ⟨_, rfl⟩
  have Hn := zH hn
  have hle := h.le
  have hfew := h.few
  have hszf := h.szf
  have H := zH h
  rw [hn] at f0 hle hfew
  have n63 : n ≤ 9223372036854775807 := by omega
  have i0 : (0 : Int) ≤ (i : Int) := Int.natCast_nonneg _
  have s0 : (0 : Int) ≤ (sz : Int) := Int.natCast_nonneg _
  clear h hn
  have SB := zH (fun (m : Nat) => (show Below q X ((X.drewN m).setCell ⟨q, 3, none⟩ (.int .i64 (sz : Int))) ∧ RSt q a c sz l i (sz : Int) es ((X.drewN m).setCell ⟨q, 3, none⟩ (.int .i64 (sz : Int))) from ⟨(below_drewN (Below.refl q X) m).setCell (p := ⟨q, 3, none⟩) (Nat.le_refl q) _, (H.out.quiet ⟨m, rfl⟩).bad_ _⟩))
  by_cases hlt : i < n
  · obtain ⟨t, ht⟩ := get_some Hn.out hlt
    obtain ⟨b0, off, rfl, t0, t1, _, t3, hok⟩ := H.out.tok ht
    have hB : placeAt l sz i = t.place := by unfold placeAt; rw [ht]
    have HB := zH hB
    have HT := zH ht
    have dlt : decide (i < n) = true := by simpa using hlt
    have dlt2 : (i : Int) < (n : Int) := by omega
    clear ht hok t0 t1 t3 hB
    go_enter Tryd.func47, Tryd.ntmps47
    go_wp2_with fail
    generalize hwq : World.setCell _ _ _ = W1
    have hs1 : Below q X W1 ∧ RSt q (some ⟨b0, off, none⟩) c sz l i (sz : Int) es W1 := by rw [← hwq]; exact SB.out 0
    have S1 := zH hs1
    clear hwq f0 f1 f2 f3 f4 f5 f6
    obtain ⟨f0, f1, f2, f3, f4, f5, f6⟩ := hs1.2.facts
    obtain ⟨b1, o1, e1, _, _, _, t3, _⟩ := hs1.2.tok HT.out
    injection e1 with e1
    injection e1 with e1 e2
    subst e1 e2
    rw [Hn.out] at f0
    clear hs1 f2
    go_quiet (fail)
    go_wp2_with fail
    generalize hwq : World.drewN W1 _ = W2
    have g0 : W2.cell? ⟨q, 0, none⟩ = some (.slice (some ⟨b0, off, none⟩) n c) := by rw [← hwq]; exact f0
    have g1 : W2.cell? ⟨q, 1, none⟩ = some (.int .i64 (i : Int)) := by rw [← hwq]; exact f1
    have g3 : W2.cell? ⟨q, 3, none⟩ = some (.int .i64 (sz : Int)) := by rw [← hwq]; exact f3
    have g5 : W2.frozen? ⟨q, 3, none⟩ = false := by rw [← hwq]; exact f5
    have gt : W2.cell? ⟨b0, off + i * 4 + 3, none⟩ = some (.int .i64 t.place) := by rw [← hwq]; exact t3
    have S2 : Hid (Below q X W2 ∧ RSt q (some ⟨b0, off, none⟩) c sz l i (sz : Int) es W2) := zH (by rw [← hwq]; exact ⟨below_drewN S1.out.1 _, S1.out.2.quiet ⟨_, rfl⟩⟩)
    clear hwq f0 f1 f3 f4 f5 f6 t3 S1
    go_still_tail 12, (by kernel_rfl)
    change wpList _ _ _ _ _ W2.drew
    go_wp2_with fail
    go_ret
    refine ⟨rfl, ?_, ?_⟩
    · exact (S2.out.1.drew).setCell (p := ⟨q, 3, none⟩) (Nat.le_refl q) _
    · rw [HB.out]
      exact (S2.out.2.quiet ⟨1, rfl⟩).bad_ _
  · obtain rfl : i = n := by omega
    have hB : placeAt l sz i = (sz : Int) := by unfold placeAt; rw [List.getElem?_eq_none (by have := Hn.out; omega)]
    have HB := zH hB
    have dlt : decide (i < i) = false := by simp
    clear hlt hB
    go_enter Tryd.func47, Tryd.ntmps47
    go_wp2_with fail
    generalize hwq : World.setCell _ _ _ = W1
    have hs1 : Below q X W1 ∧ RSt q a c sz l i (sz : Int) es W1 := by rw [← hwq]; exact SB.out 0
    have S1 := zH hs1
    clear hwq f0 f1 f2 f3 f4 f5 f6
    obtain ⟨f0, f1, f2, f3, f4, f5, f6⟩ := hs1.2.facts
    rw [Hn.out] at f0
    clear hs1 f2
    go_quiet (fail)
    go_wp2_with fail
    go_ret
    exact ⟨rfl, below_drewN S1.out.1 _, by rw [HB.out]; exact S1.out.2.quiet ⟨_, rfl⟩⟩
theorem r_must_yes (s : List Nat) (hs : Bytes s) (ht : isT l i s = true) (h : RSt q a c sz l i (-1) es X) : Calls Tryd.prog 96 #[.pointer (some ⟨q, 0, none⟩), .string (txt s)] X fun e w' => e = .returned (.tuple #[]) ∧ Below q X w' ∧ RSt q a c sz l (i + 1) (-1) es w' := by
  obtain ⟨f0, f1, f2, f3, f4, f5, f6⟩ := h.facts
  have hlt : i + 1 ≤ l.length := isT_lt ht
  have hfew := h.few
  have i5 : (i : Int) ≤ 5000 := by omega
  have i0 : (0 : Int) ≤ (i : Int) := Int.natCast_nonneg _
  have H := zH h
  have HN := zH (r_is s hs true ht h)
  clear h ht hfew
  go_enter Tryd.func96, Tryd.ntmps96
  go_wp2_with (first
    | (go_at_call 63; (with_reducible refine HN.out.mono ?_); rintro e w1 ⟨rfl, nq, rfl⟩))
  refine bodyPost_ret (v := .tuple #[]) (by simp [results, Tryd.results96, go_sem]) rfl ?_
  exact ⟨rfl, (below_drewN (Below.refl q X) _).setCell (p := ⟨q, 1, none⟩) (Nat.le_refl q) _, (H.out.quiet ⟨_, rfl⟩).at_ (by go_num) hlt⟩
theorem r_must_no (s : List Nat) (hs : Bytes s) (ht : isT l i s = false) (h : RSt q a c sz l i (-1) es X) : Calls Tryd.prog 96 #[.pointer (some ⟨q, 0, none⟩), .string (txt s)] X fun e w' => e = .returned (.tuple #[]) ∧ Below q X w' ∧ RSt q a c sz l i (placeAt l sz i) es w' := by
  have H := zH h
  have HN := zH (r_is s hs false ht h)
  clear h ht
  go_enter Tryd.func96, Tryd.ntmps96
  go_wp2_with (first
    | (go_at_call 63; (with_reducible refine HN.out.mono ?_); rintro e w1 ⟨rfl, nq, rfl⟩; have Q1 : Hid (Quiet X (X.drewN nq)) := zH ⟨nq, rfl⟩)
    | (go_at_call 47; (refine (r_stop (H.out.quiet Q1.out)).mono ?_); rintro e w2 ⟨rfl, h2, h3⟩; have S2 := zH (And.intro ((Q1.out.below q).trans h2) h3); clear h2 h3))
  go_end0
  exact ⟨rfl, S2.out⟩
theorem r_must_bad (s : List Nat) (hbad : 0 ≤ bad) (h : RSt q a c sz l i bad es X) : Calls Tryd.prog 96 #[.pointer (some ⟨q, 0, none⟩), .string (txt s)] X fun e w' => e = .returned (.tuple #[]) ∧ Quiet X w' := by
  have H := zH h
  have HN := zH (r_is_bad s hbad h)
  have HST := zH (fun Y (hY : Quiet X Y) => r_stop_bad hbad (h.quiet hY))
  clear h hbad
  go_enter Tryd.func96, Tryd.ntmps96
  go_wp2_with (first
    | (go_at_call 63; (with_reducible refine HN.out.mono ?_); rintro e w1 ⟨rfl, nq, rfl⟩; have Q1 : Hid (Quiet X (X.drewN nq)) := zH ⟨nq, rfl⟩)
    | (go_at_call 47; (refine (HST.out _ Q1.out).mono ?_); rintro e w2 ⟨rfl, rfl⟩))
  go_end0
  exact ⟨rfl, Q1.out⟩
theorem r_name_yes {t : Tok} (ht : l[i]? = some t) (hk : t.kind = 3) (h : RSt q a c sz l i (-1) es X) : Calls Tryd.prog 86 #[.pointer (some ⟨q, 0, none⟩)] X fun e w' => e = .returned (.string (txt t.text)) ∧ Below q X w' ∧ RSt q a c sz l (i + 1) (-1) es w' := by
  obtain ⟨f0, f1, f2, f3, f4, f5, f6⟩ := h.facts
  have hfew := h.few
  have hlt := (List.getElem?_eq_some_iff.1 ht).1
  obtain ⟨b0, off, rfl, t0, t1, _, _, hok⟩ := h.tok ht
  rw [hk] at t0
  have H := zH h
  obtain ⟨n, hn⟩ : ∃ n, l.length = n := ⟨_, rfl⟩
  have Hn := zH hn
  rw [hn] at f0 hlt hfew
  have n63 : n ≤ 9223372036854775807 := by omega
  have i0 : (0 : Int) ≤ (i : Int) := Int.natCast_nonneg _
  have i5 : (i : Int) ≤ 5000 := by omega
  have dlt : decide (i < n) = true := by simpa using hlt
  have dlt2 : (i : Int) < (n : Int) := by omega
  obtain ⟨tt, htt⟩ : ∃ k, t.text = k := ⟨_, rfl⟩
  rw [htt] at t1 ⊢
  have HTT := zH htt
  have HT := zH ht
  clear h ht hk hn hok htt t1
  go_enter Tryd.func86, Tryd.ntmps86
  go_wp2_with fail
  go_quiet (fail)
  go_wp2_with fail
  generalize hwq : World.setCell _ _ _ = W1
  have hS1 : Below q X W1 ∧ RSt q (some ⟨b0, off, none⟩) c sz l (i + 1) (-1) es W1 := by
    rw [← hwq]
    exact ⟨(below_drewN (Below.refl q X) _).setCell (p := ⟨q, 1, none⟩) (Nat.le_refl q) _, (H.out.quiet ⟨_, rfl⟩).at_ (by go_num) (by rw [Hn.out]; omega)⟩
  have HS := zH hS1
  clear hwq f0 f1 f2 f3 f4 f5 f6 t0
  obtain ⟨f0, f1, f2, f3, f4, f5, f6⟩ := hS1.2.facts
  obtain ⟨b1, o1, e1, _, t1, _, _, _⟩ := hS1.2.tok HT.out
  injection e1 with e1
  injection e1 with e1 e2
  subst e1 e2
  rw [HTT.out] at t1
  rw [Hn.out] at f0
  have g1 : W1.cell? ⟨q, 1, none⟩ = some (.int .i64 ((i : Int) + 1)) := f1
  have ws : IntKind.i64.wrap ((i : Int) + 1 - 1) = (i : Int) := by rw [IntKind.wrap_i64]; omega
  clear hS1 f1 f2 f3 f4 f5 f6
  go_quiet (fail)
  go_wp2_with fail
  go_ret
  exact ⟨rfl, below_drewN HS.out.1 _, HS.out.2.quiet ⟨_, rfl⟩⟩
theorem r_name_no (hk : ∀ t, l[i]? = some t → t.kind ≠ 3) (h : RSt q a c sz l i (-1) es X) : Calls Tryd.prog 86 #[.pointer (some ⟨q, 0, none⟩)] X fun e w' => e = .returned (.string ⟨#[]⟩) ∧ Below q X w' ∧ RSt q a c sz l i (placeAt l sz i) es w' := by
  obtain ⟨f0, f1, f2, f3, f4, f5, f6⟩ := h.facts
  have hfew := h.few
  have hle := h.le
  have H := zH h
  obtain ⟨n, hn⟩ : ∃ n, l.length = n := ⟨_, rfl⟩
  rw [hn] at f0 hle hfew
  have n63 : n ≤ 9223372036854775807 := by omega
  have i0 : (0 : Int) ≤ (i : Int) := Int.natCast_nonneg _
  by_cases hlt : i < n
  · obtain ⟨t, ht⟩ := get_some hn hlt
    obtain ⟨b0, off, rfl, t0, _, _, _, _⟩ := h.tok ht
    have hk3 := hk t ht
    obtain ⟨kd, hkd⟩ : ∃ k, t.kind = k := ⟨_, rfl⟩
    rw [hkd] at t0 hk3
    have dlt : decide (i < n) = true := by simpa using hlt
    have dlt2 : (i : Int) < (n : Int) := by omega
    have d4 : (kd == 3) = false := by simpa using hk3
    clear h ht hk hn hkd hk3
    go_enter Tryd.func86, Tryd.ntmps86
    go_wp2_with fail
    go_quiet (fail)
    rename_i nq
    have Q1 : Hid (Quiet X (X.drewN nq)) := zH ⟨nq, rfl⟩
    go_wp2_with (first
      | (go_at_call 47; (refine (r_stop (H.out.quiet Q1.out)).mono ?_); rintro e w2 ⟨rfl, h2, h3⟩; have S2 := zH (And.intro ((Q1.out.below q).trans h2) h3); clear h2 h3))
    go_ret
    exact ⟨rfl, S2.out⟩
  · obtain rfl : i = n := by omega
    have dlt : decide (i < i) = false := by simp
    clear h hk hlt hn
    go_enter Tryd.func86, Tryd.ntmps86
    go_wp2_with fail
    go_quiet (fail)
    rename_i nq
    have Q1 : Hid (Quiet X (X.drewN nq)) := zH ⟨nq, rfl⟩
    go_wp2_with (first
      | (go_at_call 47; (refine (r_stop (H.out.quiet Q1.out)).mono ?_); rintro e w2 ⟨rfl, h2, h3⟩; have S2 := zH (And.intro ((Q1.out.below q).trans h2) h3); clear h2 h3))
    go_ret
    exact ⟨rfl, S2.out⟩
theorem r_name_bad (hbad : 0 ≤ bad) (h : RSt q a c sz l i bad es X) : Calls Tryd.prog 86 #[.pointer (some ⟨q, 0, none⟩)] X fun e w' => e = .returned (.string ⟨#[]⟩) ∧ Quiet X w' := by
  obtain ⟨f0, f1, f2, f3, f4, f5, f6⟩ := h.facts
  have d0 : decide (bad < 0) = false := by simp; omega
  have HST := zH (fun Y (hY : Quiet X Y) => r_stop_bad hbad (h.quiet hY))
  clear h hbad f4 f5
  go_enter Tryd.func86, Tryd.ntmps86
  go_wp2_with fail
  go_quiet (fail)
  rename_i nq
  have Q1 : Hid (Quiet X (X.drewN nq)) := zH ⟨nq, rfl⟩
  go_wp2_with (first
    | (go_at_call 47; (refine (HST.out _ Q1.out).mono ?_); rintro e w2 ⟨rfl, rfl⟩))
  go_ret
  exact ⟨rfl, Q1.out⟩
end
end Go.Proofs.YtpkggobhhieeoaaDoor
namespace Go.Proofs.YtpkggobhhieeoaaDoor
open Go.RowKit
theorem EL.main2 {X w2 : World} {B : Nat} {mv : Value} {es : List (EN × Value)} (h : EL X B mv es) (o o' : Obj) (hg : (X.alloc o).grownBy w2 (some X.heap.size)) : Own1 (w2.alloc o') B 116 4 IsEN mv es := by
  have hs : X.heap.size < (X.alloc o).heap.size := by rw [World.size_alloc]; omega
  refine h.main.stay (fun b _ hb => ?_)
  have h2 : b < w2.heap.size := Nat.lt_of_lt_of_le (Nat.lt_trans hb hs) hg.size
  rw [Below.heap_alloc w2 o' b h2, hg.block b (Nat.lt_trans hb hs) (fun e => by injection e with e; omega), Below.heap_alloc X o b hb]
theorem EL.add {X w2 w4 : World} {B : Nat} {mv mv' kv : Value} {es : List (EN × Value)} {e : EN} (h : EL X B mv es) (hB : B ≤ X.heap.size) (o o' : Obj) (hk : Own1 w2 X.heap.size 3 1 IsNat kv e.kids)
    (hg : (X.alloc o).grownBy w2 (some X.heap.size)) (hm : Own1 w4 B 116 4 IsEN mv' (es ++ [(e, kv)])) (hg' : (w2.alloc o').grownBy w4 mv.ownBlock) : EL w4 B mv' (es ++ [(e, kv)]) := by
  have hs : X.heap.size < (X.alloc o).heap.size := by rw [World.size_alloc]; omega
  have st : ∀ b, b < X.heap.size → (w2.alloc o').heap[b]? = X.heap[b]? := fun b hb => by
    have h2 : b < w2.heap.size := Nat.lt_of_lt_of_le (Nat.lt_trans hb hs) hg.size
    rw [Below.heap_alloc w2 o' b h2, hg.block b (Nat.lt_trans hb hs) (fun e => by injection e with e; omega), Below.heap_alloc X o b hb]
  have m2 : Own1 (w2.alloc o') B 116 4 IsEN mv es := h.main.stay (fun b hb hl => st b hl)
  have k2 : ∀ (i : Nat) (p : EN × Value), es[i]? = some p → Own1 (w2.alloc o') B 3 1 IsNat p.2 p.1.kids := fun i p hp => (h.kids i p hp).stay (fun b hb hl => st b hl)
  have key : ∀ (i : Nat) (p : EN × Value), (es ++ [(e, kv)])[i]? = some p → es[i]? = some p ∨ (i = es.length ∧ p = (e, kv)) := by
    intro i p hp
    rcases Nat.lt_or_ge i es.length with hl | hl
    · rw [List.getElem?_append_left hl] at hp; exact .inl hp
    · rw [List.getElem?_append_right hl] at hp
      have h0 := (List.getElem?_eq_some_iff.1 hp).1
      simp at h0
      have : i = es.length := by omega
      subst this
      simp at hp
      exact .inr ⟨rfl, hp.symm⟩
  refine ⟨hm, fun i p hp => ?_, fun i j p p' b hij hi hj hb => ?_⟩
  · rcases key i p hp with h1 | ⟨_, rfl⟩
    · exact (k2 i p h1).kept1 m2 (by decide) hg'
    · exact ((hk.mono hB).alloc o').kept1 m2 (by decide) hg'
  · rcases key i p hi with h1 | ⟨e1, rfl⟩
    · rcases key j p' hj with h2 | ⟨e2, rfl⟩
      · exact h.apart i j p p' b hij h1 h2 hb
      · intro e
        have := (h.kids i p h1).block b hb
        have := hk.block b e
        omega
    · rcases key j p' hj with h2 | ⟨e2, rfl⟩
      · intro e
        have := (h.kids j p' h2).block b e
        have := hk.block b hb
        omega
      · omega
section
variable {q : Nat} {a : Option Addr} {c sz : Nat} {l : List Tok} {i : Nat} {bad : Int} {es : List (EN × Value)} {X : World}
theorem RSt.made (h : RSt q a c sz l i bad es X) {w4 : World} {es' : List (EN × Value)} {v' : Value} (hb : Below (q + 1) X w4) (hE : EL w4 (q + 1) v' es') : Below q X (w4.setCell ⟨q, 4, none⟩ v') ∧ RSt q a c sz l i bad es' (w4.setCell ⟨q, 4, none⟩ v') := by
  obtain ⟨mv, h1, _⟩ := h.box
  have hb2 : Below q X (w4.setCell ⟨q, 4, none⟩ v') := (hb.mono (Nat.le_succ q)).setCell (p := ⟨q, 4, none⟩) (Nat.le_refl q) _
  exact ⟨hb2, h.toks.below hb2, ⟨v', by have := (h1.below hb (Nat.lt_succ_self q)).set_ 4 v'; simpa using this, hE.setFar (Nat.lt_succ_self q) _⟩, h.le, h.few, h.szf, h.good, h.place⟩
theorem r_add (k : Nat) (s : List Nat) (v : Int) (ks : List Nat) (ka : Option Addr) (kn kc : Nat) (hks : SlR X X.heap.size 1 IsNat (.slice ka kn kc) ks) (hk3 : ks.length ≤ 3) (hes : es.length ≤ 5000) (h : RSt q a c sz l i bad es X) :
    Calls Tryd.prog 64 #[.pointer (some ⟨q, 0, none⟩), .int .i64 (k : Int), .string (txt s), .int .i64 v, .slice ka kn kc] X fun e w' => e = .returned (.int .i64 (es.length : Int)) ∧ Below q X w' ∧ ∃ kv, RSt q a c sz l i bad (es ++ [(⟨k, s, v, ks⟩, kv)]) w' := by
  obtain ⟨mv, hbox, hel⟩ := h.box
  obtain ⟨ma, mc, rfl⟩ := hel.main.form
  obtain ⟨m, hm⟩ : ∃ m, es.length = m := ⟨_, rfl⟩
  have hkn := hks.len
  rw [hm] at hbox hel hes
  have c4 : X.cell? ⟨q, 4, none⟩ = some (.slice ma m mc) := hbox.cell rfl
  have z4 := hbox.frozen 4
  have lq := hbox.lt
  have H := zH h
  have HB := zH hbox
  have HE := zH hel
  have HK := zH hks
  have HKN := zH hkn
  have HM := zH hm
  have HK3 := zH hk3
  obtain ⟨jE, hi, hz, hs2, hby⟩ := info_parts info_enode
  have IE := zH (And.intro hi (And.intro hz (And.intro hs2 hby)))
  clear hi hz hs2 hby
  obtain ⟨jI, hi, hz, hs2, hby⟩ := info_parts info_int
  have II := zH (And.intro hi (And.intro hz (And.intro hs2 hby)))
  have kn3 : kn ≤ 3 := by omega
  rw [hm]
  clear hi hz hs2 hby h hbox hel hks hkn hm hk3
  go_enter Tryd.func64, Tryd.ntmps64
  go_wp2_with fail
  have tokA : True := trivial
  go_region_law (first
    | (have _t := tokA; refine step_append_list rfl (.tmp 19) (.tmp 20) _ (by rfl) X.heap.size X.heap.size 3 jI _ 1 8 Tryd.underlying114 II.out.1 II.out.2.1 II.out.2.2.1 II.out.2.2.2 rfl (by omega) (R := IsNat) (l := []) (m := ks) (.slice (some ⟨X.heap.size, 0, none⟩) 0 0) (by rfl) (by exact (Own1.empty (w := X) rfl zL)) ka kn kc (by rfl) (by exact HK.out.below ((Below.refl X.heap.size X).alloc zL _).drew) kn (by simp) IsNat.one (by simp; unfold maxLen; omega) (by simp; omega) (by show X.heap.size ≤ (X.alloc (.cells #[] 3)).heap.size; rw [World.size_alloc]; omega) ?_; intro a2 c2 w2 hown hgr0; have hgr : (X.alloc (.cells #[] 3)).grownBy w2 (some X.heap.size) := ⟨hgr0.os, hgr0.tape, hgr0.output, hgr0.size, hgr0.block⟩; have B2 : Below (q + 1) X w2 := ((Below.refl (q + 1) X).alloc lq (.cells #[] 3)).grown hgr (by rw [World.size_alloc]; omega) (fun b hb => by injection hb with hb; omega); have c42 : w2.cell? ⟨q, 4, none⟩ = some (.slice ma m mc) := (HB.out.below B2 (Nat.lt_succ_self q)).cell rfl; have lq2 := cell_lt c42; have HB2 := zH B2; have O2 := zH (And.intro hown hgr); clear hown hgr hgr0 B2 tokA _t)
    | (refine step_append_list rfl (.tmp 15) (.tmp 23) _ (by rfl) (q + 1) (w2.heap.size + 1) 116 jE _ 4 56 Tryd.underlying67 IE.out.1 IE.out.2.1 IE.out.2.2.1 IE.out.2.2.2 rfl (by omega) (R := IsEN) (l := es) (m := [(⟨k, s, v, ks⟩, .slice a2 kn c2)]) (.slice ma m mc) (by rfl) (HE.out.main2 (.cells #[] 3) (.cells #[.int .i64 (k : Int), .string (txt s), .int .i64 v, .slice a2 kn c2] 116) O2.out.2) (some ⟨w2.heap.size, 0, none⟩) 1 1 (by rfl) (by exact SlR.new1 (x := [.int .i64 (k : Int), .string (txt s), .int .i64 v, .slice a2 kn c2]) rfl rfl ⟨rfl, _, _, _, rfl⟩) (m + 1) (by rw [HM.out]) IsEN.one (by rw [HM.out]; unfold maxLen; omega) (by rw [HM.out]; omega) (by have : q < w2.heap.size := lq2; rw [World.size_alloc]; omega) ?_; intro a4 c44 w4 hown4 hgr4; have E4 := HE.out.add lq (.cells #[] 3) (.cells #[.int .i64 (k : Int), .string (txt s), .int .i64 v, .slice a2 kn c2] 116) (e := ⟨k, s, v, ks⟩) O2.out.1 O2.out.2 hown4 hgr4; have B4 : Below (q + 1) X w4 := (HB2.out.alloc (by have : q < w2.heap.size := lq2; omega) (.cells #[.int .i64 (k : Int), .string (txt s), .int .i64 v, .slice a2 kn c2] 116)).grown hgr4 (by have : q < w2.heap.size := lq2; rw [World.size_alloc]; omega) (fun b hb => (HE.out.main.block b hb).1); have bx := HB.out.below B4 (Nat.lt_succ_self q); have d4 : w4.cell? ⟨q, 4, none⟩ = some (.slice ma m mc) := bx.cell rfl; have d5 : w4.frozen? ⟨q, 4, none⟩ = false := bx.frozen 4; have S4 := zH (H.out.made B4 E4); clear hown4 hgr4 E4 B4 bx))
  all_goals
    go_wp2_with fail
    go_ret
    exact ⟨rfl, S4.out.1, _, S4.out.2⟩
end
end Go.Proofs.YtpkggobhhieeoaaDoor
