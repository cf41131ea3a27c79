/- The scanner's small functions: what each answers. -/
import Derived.Test.YtlenenfgedgmhaaDoorRight
import Derived.Test.YtlenenfgedgmhaaDoorScanPlain
namespace Go.Proofs.YtlenenfgedgmhaaDoor
set_option linter.unusedSimpArgs false
set_option linter.unusedVariables false
open Go.RowKit

theorem lex_letter_any (n : Nat) (w : World) : Calls Tryd.prog 42 #[.int .u8 (n : Int)] w fun e w' => e = .returned (.bool (letterN n)) ∧ Quiet w w' := by
  by_cases h1 : 65 ≤ n
  · by_cases h2 : n ≤ 90
    · have hv : letterN n = true := by simp [letterN]; omega
      rw [hv]; clear hv
      go_enter Tryd.func42, Tryd.ntmps42
      go_wp2_with fail
      go_ret
      exact ⟨rfl, Quiet.refl _⟩
    · have a2 : decide ((n : Int) ≤ 90) = false := by simp; omega
      by_cases h3 : 97 ≤ n
      · by_cases h4 : n ≤ 122
        · have hv : letterN n = true := by simp [letterN]; omega
          have a4 : decide ((n : Int) ≤ 122) = true := by simp; omega
          rw [hv]; clear hv
          go_enter Tryd.func42, Tryd.ntmps42
          go_wp2_with fail
          go_ret
          exact ⟨rfl, Quiet.refl _⟩
        · have hv : letterN n = false := by simp [letterN]; omega
          have a4 : decide ((n : Int) ≤ 122) = false := by simp; omega
          rw [hv]; clear hv
          go_enter Tryd.func42, Tryd.ntmps42
          go_wp2_with fail
          go_ret
          exact ⟨rfl, Quiet.refl _⟩
      · have hv : letterN n = false := by simp [letterN]; omega
        have a3 : decide (97 ≤ (n : Int)) = false := by simp; omega
        rw [hv]; clear hv
        go_enter Tryd.func42, Tryd.ntmps42
        go_wp2_with fail
        go_ret
        exact ⟨rfl, Quiet.refl _⟩
  · have hv : letterN n = false := by simp [letterN]; omega
    have a1 : decide (65 ≤ (n : Int)) = false := by simp; omega
    have a3 : decide (97 ≤ (n : Int)) = false := by simp; omega
    have h3 : ¬ 97 ≤ n := by omega
    rw [hv]; clear hv
    go_enter Tryd.func42, Tryd.ntmps42
    go_wp2_with fail
    go_ret
    exact ⟨rfl, Quiet.refl _⟩
theorem lex_letter (n : Nat) (b : Bool) (hb : letterN n = b) (w : World) : Calls Tryd.prog 42 #[.int .u8 (n : Int)] w fun e w' => e = .returned (.bool b) ∧ Quiet w w' := hb ▸ lex_letter_any n w
def figN (n : Nat) : Bool := decide (48 ≤ n ∧ n ≤ 57)
theorem lex_digit_any (n : Nat) (w : World) : Calls Tryd.prog 40 #[.int .u8 (n : Int)] w fun e w' => e = .returned (.bool (figN n)) ∧ Quiet w w' := by
  by_cases h1 : 48 ≤ n
  · by_cases h2 : n ≤ 57
    · have hv : figN n = true := by simp [figN]; omega
      have a2 : decide ((n : Int) ≤ 57) = true := by simp; omega
      rw [hv]; clear hv
      go_enter Tryd.func40, Tryd.ntmps40
      go_wp2_with fail
      go_ret
      exact ⟨rfl, Quiet.refl _⟩
    · have hv : figN n = false := by simp [figN]; omega
      have a2 : decide ((n : Int) ≤ 57) = false := by simp; omega
      rw [hv]; clear hv
      go_enter Tryd.func40, Tryd.ntmps40
      go_wp2_with fail
      go_ret
      exact ⟨rfl, Quiet.refl _⟩
  · have hv : figN n = false := by simp [figN]; omega
    have a1 : decide (48 ≤ (n : Int)) = false := by simp; omega
    rw [hv]; clear hv
    go_enter Tryd.func40, Tryd.ntmps40
    go_wp2_with fail
    go_ret
    exact ⟨rfl, Quiet.refl _⟩
theorem lex_digit (n : Nat) (b : Bool) (hb : figN n = b) (w : World) : Calls Tryd.prog 40 #[.int .u8 (n : Int)] w fun e w' => e = .returned (.bool b) ∧ Quiet w w' := hb ▸ lex_digit_any n w
theorem lex_further_any (n : Nat) (w : World) : Calls Tryd.prog 38 #[.int .u8 (n : Int)] w fun e w' => e = .returned (.bool (furtherN n)) ∧ Quiet w w' := by
  rcases hl : letterN n with _ | _
  · rcases hd : figN n with _ | _
    · have hd' : ¬ (48 ≤ n ∧ n ≤ 57) := by simpa [figN] using hd
      have hv : furtherN n = decide ((n : Int) = 95) := by
        unfold furtherN
        rw [hl, Bool.false_or, decide_eq_decide]
        omega
      have L := Lib.hid (fun W => lex_letter n false hl W)
      have G := Lib.hid (fun W => lex_digit n false hd W)
      by_cases h95 : n = 95
      · subst h95
        rw [hv]; clear hv hl hd hd'
        go_enter Tryd.func38, Tryd.ntmps38
        go_wp2_with (first | (go_at_call 42; refine (L.out _).mono ?_; rintro e w1 ⟨rfl, q1⟩) | (go_at_call 40; refine (G.out _).mono ?_; rintro e w2 ⟨rfl, q2⟩))
        go_ret
        exact ⟨rfl, q1.trans q2⟩
      · have hw : decide ((n : Int) = 95) = false := by simp; omega
        have e1 : ((n : Int) == 95) = false := by simp; omega
        rw [hv, hw]; clear hv hw hl hd hd'
        go_enter Tryd.func38, Tryd.ntmps38
        go_wp2_with (first | (go_at_call 42; refine (L.out _).mono ?_; rintro e w1 ⟨rfl, q1⟩) | (go_at_call 40; refine (G.out _).mono ?_; rintro e w2 ⟨rfl, q2⟩))
        go_ret
        exact ⟨rfl, q1.trans q2⟩
    · have hd' : 48 ≤ n ∧ n ≤ 57 := by simpa [figN] using hd
      have hv : furtherN n = true := by
        unfold furtherN
        rw [hl, Bool.false_or, decide_eq_true (Or.inl hd')]
      have L := Lib.hid (fun W => lex_letter n false hl W)
      have G := Lib.hid (fun W => lex_digit n true hd W)
      rw [hv]; clear hv hl hd hd'
      go_enter Tryd.func38, Tryd.ntmps38
      go_wp2_with (first | (go_at_call 42; refine (L.out _).mono ?_; rintro e w1 ⟨rfl, q1⟩) | (go_at_call 40; refine (G.out _).mono ?_; rintro e w2 ⟨rfl, q2⟩))
      go_ret
      exact ⟨rfl, q1.trans q2⟩
  · have hv : furtherN n = true := by unfold furtherN; rw [hl]; rfl
    have L := Lib.hid (fun W => lex_letter n true hl W)
    rw [hv]; clear hv hl
    go_enter Tryd.func38, Tryd.ntmps38
    go_wp2_with (go_at_call 42; refine (L.out _).mono ?_; rintro e w1 ⟨rfl, q1⟩)
    go_ret
    exact ⟨rfl, q1⟩
theorem lex_further (n : Nat) (b : Bool) (hb : furtherN n = b) (w : World) : Calls Tryd.prog 38 #[.int .u8 (n : Int)] w fun e w' => e = .returned (.bool b) ∧ Quiet w w' := hb ▸ lex_further_any n w

theorem not_text {s : ByteArray} {l : List Nat} {x : ByteArray} (hx : bs x = l) (h : ¬ bs s = l) : ¬ s.toList = x.toList := fun e => h (by rw [(toList_inj s x).1 e, hx])
set_option maxHeartbeats 4000000 in
theorem lex_reserved_any (s : ByteArray) (w : World) : Calls Tryd.prog 43 #[.string s] w fun e w' => e = .returned (.bool (decide (bs s ∈ wordsL))) ∧ Quiet w w' := by
  by_cases hm : bs s ∈ wordsL
  · have hv : decide (bs s ∈ wordsL) = true := decide_eq_true hm
    rw [hv]
    clear hv
    simp only [wordsL, List.mem_cons, List.not_mem_nil, or_false] at hm
    rcases hm with hm | hm | hm | hm | hm | hm | hm | hm | hm | hm | hm | hm | hm | hm | hm | hm | hm | hm | hm | hm | hm | hm
    · have hs : s = ⟨#[97, 110, 100]⟩ := bs_inj (hm.trans rfl)
      subst hs
      clear hm
      go_enter Tryd.func43, Tryd.ntmps43
      go_wp2_with fail
      go_ret
      exact ⟨rfl, Quiet.refl _⟩
    · have hs : s = ⟨#[97, 110, 121]⟩ := bs_inj (hm.trans rfl)
      subst hs
      clear hm
      go_enter Tryd.func43, Tryd.ntmps43
      go_wp2_with fail
      go_ret
      exact ⟨rfl, Quiet.refl _⟩
    · have hs : s = ⟨#[99, 111, 110, 99, 101, 112, 116]⟩ := bs_inj (hm.trans rfl)
      subst hs
      clear hm
      go_enter Tryd.func43, Tryd.ntmps43
      go_wp2_with fail
      go_ret
      exact ⟨rfl, Quiet.refl _⟩
    · have hs : s = ⟨#[101, 108, 115, 101]⟩ := bs_inj (hm.trans rfl)
      subst hs
      clear hm
      go_enter Tryd.func43, Tryd.ntmps43
      go_wp2_with fail
      go_ret
      exact ⟨rfl, Quiet.refl _⟩
    · have hs : s = ⟨#[101, 110, 100]⟩ := bs_inj (hm.trans rfl)
      subst hs
      clear hm
      go_enter Tryd.func43, Tryd.ntmps43
      go_wp2_with fail
      go_ret
      exact ⟨rfl, Quiet.refl _⟩
    · have hs : s = ⟨#[101, 118, 101, 114, 121]⟩ := bs_inj (hm.trans rfl)
      subst hs
      clear hm
      go_enter Tryd.func43, Tryd.ntmps43
      go_wp2_with fail
      go_ret
      exact ⟨rfl, Quiet.refl _⟩
    · have hs : s = ⟨#[102, 97, 108, 115, 101]⟩ := bs_inj (hm.trans rfl)
      subst hs
      clear hm
      go_enter Tryd.func43, Tryd.ntmps43
      go_wp2_with fail
      go_ret
      exact ⟨rfl, Quiet.refl _⟩
    · have hs : s = ⟨#[102, 105, 114, 115, 116]⟩ := bs_inj (hm.trans rfl)
      subst hs
      clear hm
      go_enter Tryd.func43, Tryd.ntmps43
      go_wp2_with fail
      go_ret
      exact ⟨rfl, Quiet.refl _⟩
    · have hs : s = ⟨#[105, 100]⟩ := bs_inj (hm.trans rfl)
      subst hs
      clear hm
      go_enter Tryd.func43, Tryd.ntmps43
      go_wp2_with fail
      go_ret
      exact ⟨rfl, Quiet.refl _⟩
    · have hs : s = ⟨#[105, 102]⟩ := bs_inj (hm.trans rfl)
      subst hs
      clear hm
      go_enter Tryd.func43, Tryd.ntmps43
      go_wp2_with fail
      go_ret
      exact ⟨rfl, Quiet.refl _⟩
    · have hs : s = ⟨#[105, 110]⟩ := bs_inj (hm.trans rfl)
      subst hs
      clear hm
      go_enter Tryd.func43, Tryd.ntmps43
      go_wp2_with fail
      go_ret
      exact ⟨rfl, Quiet.refl _⟩
    · have hs : s = ⟨#[105, 110, 116]⟩ := bs_inj (hm.trans rfl)
      subst hs
      clear hm
      go_enter Tryd.func43, Tryd.ntmps43
      go_wp2_with fail
      go_ret
      exact ⟨rfl, Quiet.refl _⟩
    · have hs : s = ⟨#[110, 111, 110, 101]⟩ := bs_inj (hm.trans rfl)
      subst hs
      clear hm
      go_enter Tryd.func43, Tryd.ntmps43
      go_wp2_with fail
      go_ret
      exact ⟨rfl, Quiet.refl _⟩
    · have hs : s = ⟨#[110, 111, 116]⟩ := bs_inj (hm.trans rfl)
      subst hs
      clear hm
      go_enter Tryd.func43, Tryd.ntmps43
      go_wp2_with fail
      go_ret
      exact ⟨rfl, Quiet.refl _⟩
    · have hs : s = ⟨#[111, 110, 108, 121]⟩ := bs_inj (hm.trans rfl)
      subst hs
      clear hm
      go_enter Tryd.func43, Tryd.ntmps43
      go_wp2_with fail
      go_ret
      exact ⟨rfl, Quiet.refl _⟩
    · have hs : s = ⟨#[111, 114]⟩ := bs_inj (hm.trans rfl)
      subst hs
      clear hm
      go_enter Tryd.func43, Tryd.ntmps43
      go_wp2_with fail
      go_ret
      exact ⟨rfl, Quiet.refl _⟩
    · have hs : s = ⟨#[115, 101, 108, 102]⟩ := bs_inj (hm.trans rfl)
      subst hs
      clear hm
      go_enter Tryd.func43, Tryd.ntmps43
      go_wp2_with fail
      go_ret
      exact ⟨rfl, Quiet.refl _⟩
    · have hs : s = ⟨#[115, 105, 122, 101]⟩ := bs_inj (hm.trans rfl)
      subst hs
      clear hm
      go_enter Tryd.func43, Tryd.ntmps43
      go_wp2_with fail
      go_ret
      exact ⟨rfl, Quiet.refl _⟩
    · have hs : s = ⟨#[115, 117, 109]⟩ := bs_inj (hm.trans rfl)
      subst hs
      clear hm
      go_enter Tryd.func43, Tryd.ntmps43
      go_wp2_with fail
      go_ret
      exact ⟨rfl, Quiet.refl _⟩
    · have hs : s = ⟨#[116, 101, 120, 116]⟩ := bs_inj (hm.trans rfl)
      subst hs
      clear hm
      go_enter Tryd.func43, Tryd.ntmps43
      go_wp2_with fail
      go_ret
      exact ⟨rfl, Quiet.refl _⟩
    · have hs : s = ⟨#[116, 104, 101, 110]⟩ := bs_inj (hm.trans rfl)
      subst hs
      clear hm
      go_enter Tryd.func43, Tryd.ntmps43
      go_wp2_with fail
      go_ret
      exact ⟨rfl, Quiet.refl _⟩
    · have hs : s = ⟨#[116, 114, 117, 101]⟩ := bs_inj (hm.trans rfl)
      subst hs
      clear hm
      go_enter Tryd.func43, Tryd.ntmps43
      go_wp2_with fail
      go_ret
      exact ⟨rfl, Quiet.refl _⟩
  · have hv : decide (bs s ∈ wordsL) = false := decide_eq_false hm
    rw [hv]
    clear hv
    simp only [wordsL, List.mem_cons, List.not_mem_nil, or_false, not_or] at hm
    obtain ⟨h0, h1, h2, h3, h4, h5, h6, h7, h8, h9, h10, h11, h12, h13, h14, h15, h16, h17, h18, h19, h20, h21⟩ := hm
    have g0 : ¬ s.toList = [97, 110, 100] := fun e => h0 (by rw [(toList_inj s ⟨#[97, 110, 100]⟩).1 (e.trans (by rw [ByteArray.toList_eq]))]; rfl)
    have k0 : (s.toList == [97, 110, 100]) = false := by rw [beq_eq_false_iff_ne]; exact g0
    have g1 : ¬ s.toList = [97, 110, 121] := fun e => h1 (by rw [(toList_inj s ⟨#[97, 110, 121]⟩).1 (e.trans (by rw [ByteArray.toList_eq]))]; rfl)
    have k1 : (s.toList == [97, 110, 121]) = false := by rw [beq_eq_false_iff_ne]; exact g1
    have g2 : ¬ s.toList = [99, 111, 110, 99, 101, 112, 116] := fun e => h2 (by rw [(toList_inj s ⟨#[99, 111, 110, 99, 101, 112, 116]⟩).1 (e.trans (by rw [ByteArray.toList_eq]))]; rfl)
    have k2 : (s.toList == [99, 111, 110, 99, 101, 112, 116]) = false := by rw [beq_eq_false_iff_ne]; exact g2
    have g3 : ¬ s.toList = [101, 108, 115, 101] := fun e => h3 (by rw [(toList_inj s ⟨#[101, 108, 115, 101]⟩).1 (e.trans (by rw [ByteArray.toList_eq]))]; rfl)
    have k3 : (s.toList == [101, 108, 115, 101]) = false := by rw [beq_eq_false_iff_ne]; exact g3
    have g4 : ¬ s.toList = [101, 110, 100] := fun e => h4 (by rw [(toList_inj s ⟨#[101, 110, 100]⟩).1 (e.trans (by rw [ByteArray.toList_eq]))]; rfl)
    have k4 : (s.toList == [101, 110, 100]) = false := by rw [beq_eq_false_iff_ne]; exact g4
    have g5 : ¬ s.toList = [101, 118, 101, 114, 121] := fun e => h5 (by rw [(toList_inj s ⟨#[101, 118, 101, 114, 121]⟩).1 (e.trans (by rw [ByteArray.toList_eq]))]; rfl)
    have k5 : (s.toList == [101, 118, 101, 114, 121]) = false := by rw [beq_eq_false_iff_ne]; exact g5
    have g6 : ¬ s.toList = [102, 97, 108, 115, 101] := fun e => h6 (by rw [(toList_inj s ⟨#[102, 97, 108, 115, 101]⟩).1 (e.trans (by rw [ByteArray.toList_eq]))]; rfl)
    have k6 : (s.toList == [102, 97, 108, 115, 101]) = false := by rw [beq_eq_false_iff_ne]; exact g6
    have g7 : ¬ s.toList = [102, 105, 114, 115, 116] := fun e => h7 (by rw [(toList_inj s ⟨#[102, 105, 114, 115, 116]⟩).1 (e.trans (by rw [ByteArray.toList_eq]))]; rfl)
    have k7 : (s.toList == [102, 105, 114, 115, 116]) = false := by rw [beq_eq_false_iff_ne]; exact g7
    have g8 : ¬ s.toList = [105, 100] := fun e => h8 (by rw [(toList_inj s ⟨#[105, 100]⟩).1 (e.trans (by rw [ByteArray.toList_eq]))]; rfl)
    have k8 : (s.toList == [105, 100]) = false := by rw [beq_eq_false_iff_ne]; exact g8
    have g9 : ¬ s.toList = [105, 102] := fun e => h9 (by rw [(toList_inj s ⟨#[105, 102]⟩).1 (e.trans (by rw [ByteArray.toList_eq]))]; rfl)
    have k9 : (s.toList == [105, 102]) = false := by rw [beq_eq_false_iff_ne]; exact g9
    have g10 : ¬ s.toList = [105, 110] := fun e => h10 (by rw [(toList_inj s ⟨#[105, 110]⟩).1 (e.trans (by rw [ByteArray.toList_eq]))]; rfl)
    have k10 : (s.toList == [105, 110]) = false := by rw [beq_eq_false_iff_ne]; exact g10
    have g11 : ¬ s.toList = [105, 110, 116] := fun e => h11 (by rw [(toList_inj s ⟨#[105, 110, 116]⟩).1 (e.trans (by rw [ByteArray.toList_eq]))]; rfl)
    have k11 : (s.toList == [105, 110, 116]) = false := by rw [beq_eq_false_iff_ne]; exact g11
    have g12 : ¬ s.toList = [110, 111, 110, 101] := fun e => h12 (by rw [(toList_inj s ⟨#[110, 111, 110, 101]⟩).1 (e.trans (by rw [ByteArray.toList_eq]))]; rfl)
    have k12 : (s.toList == [110, 111, 110, 101]) = false := by rw [beq_eq_false_iff_ne]; exact g12
    have g13 : ¬ s.toList = [110, 111, 116] := fun e => h13 (by rw [(toList_inj s ⟨#[110, 111, 116]⟩).1 (e.trans (by rw [ByteArray.toList_eq]))]; rfl)
    have k13 : (s.toList == [110, 111, 116]) = false := by rw [beq_eq_false_iff_ne]; exact g13
    have g14 : ¬ s.toList = [111, 110, 108, 121] := fun e => h14 (by rw [(toList_inj s ⟨#[111, 110, 108, 121]⟩).1 (e.trans (by rw [ByteArray.toList_eq]))]; rfl)
    have k14 : (s.toList == [111, 110, 108, 121]) = false := by rw [beq_eq_false_iff_ne]; exact g14
    have g15 : ¬ s.toList = [111, 114] := fun e => h15 (by rw [(toList_inj s ⟨#[111, 114]⟩).1 (e.trans (by rw [ByteArray.toList_eq]))]; rfl)
    have k15 : (s.toList == [111, 114]) = false := by rw [beq_eq_false_iff_ne]; exact g15
    have g16 : ¬ s.toList = [115, 101, 108, 102] := fun e => h16 (by rw [(toList_inj s ⟨#[115, 101, 108, 102]⟩).1 (e.trans (by rw [ByteArray.toList_eq]))]; rfl)
    have k16 : (s.toList == [115, 101, 108, 102]) = false := by rw [beq_eq_false_iff_ne]; exact g16
    have g17 : ¬ s.toList = [115, 105, 122, 101] := fun e => h17 (by rw [(toList_inj s ⟨#[115, 105, 122, 101]⟩).1 (e.trans (by rw [ByteArray.toList_eq]))]; rfl)
    have k17 : (s.toList == [115, 105, 122, 101]) = false := by rw [beq_eq_false_iff_ne]; exact g17
    have g18 : ¬ s.toList = [115, 117, 109] := fun e => h18 (by rw [(toList_inj s ⟨#[115, 117, 109]⟩).1 (e.trans (by rw [ByteArray.toList_eq]))]; rfl)
    have k18 : (s.toList == [115, 117, 109]) = false := by rw [beq_eq_false_iff_ne]; exact g18
    have g19 : ¬ s.toList = [116, 101, 120, 116] := fun e => h19 (by rw [(toList_inj s ⟨#[116, 101, 120, 116]⟩).1 (e.trans (by rw [ByteArray.toList_eq]))]; rfl)
    have k19 : (s.toList == [116, 101, 120, 116]) = false := by rw [beq_eq_false_iff_ne]; exact g19
    have g20 : ¬ s.toList = [116, 104, 101, 110] := fun e => h20 (by rw [(toList_inj s ⟨#[116, 104, 101, 110]⟩).1 (e.trans (by rw [ByteArray.toList_eq]))]; rfl)
    have k20 : (s.toList == [116, 104, 101, 110]) = false := by rw [beq_eq_false_iff_ne]; exact g20
    have g21 : ¬ s.toList = [116, 114, 117, 101] := fun e => h21 (by rw [(toList_inj s ⟨#[116, 114, 117, 101]⟩).1 (e.trans (by rw [ByteArray.toList_eq]))]; rfl)
    have k21 : (s.toList == [116, 114, 117, 101]) = false := by rw [beq_eq_false_iff_ne]; exact g21
    clear h0 h1 h2 h3 h4 h5 h6 h7 h8 h9 h10 h11 h12 h13 h14 h15 h16 h17 h18 h19 h20 h21
    go_enter Tryd.func43, Tryd.ntmps43
    go_wp2_with fail
    go_ret
    exact ⟨rfl, Quiet.refl _⟩
theorem lex_reserved (s : ByteArray) (b : Bool) (hb : decide (bs s ∈ wordsL) = b) (w : World) : Calls Tryd.prog 43 #[.string s] w fun e w' => e = .returned (.bool b) ∧ Quiet w w' := hb ▸ lex_reserved_any s w
end Go.Proofs.YtlenenfgedgmhaaDoor
