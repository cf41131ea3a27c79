/- Names' bytes and names, as plain functions. A byte among a text's bytes; what a number's text comes to: the reference's words. Names: what the program's and the reference's functions answer. The program's and the reference's functions on one byte: what they answer; no condition. The plain law of quotes: at each place one byte's form is the first that fits, and where none fits, the farthest goes as far as the other reading says. What escape and common answer: the walks. What the two Quotes answer, of any text of at most 1048576 bytes: the same text. What the program's Unquote answers, of any text of at most 1048576 bytes at any place: as a plain function. The plain law of quotes that are read back: what is put in quotes is read as it was, wherever it stands, and what is read has just those quotes. -/
import Derived.Test.YtdkoafmgenbkbaaDoorMNum
import Derived.Test.YtdkoafmgenbkbaaDoorProg
import Derived.WalkSpells
import Derived.Deep.QuietTactic
import Derived.BigQuiet
import Derived.Outline
import Derived.WalkMore
import Derived.Deep.RegionHeld3
namespace Go.Proofs.YtdkoafmgenbkbaaDoor
set_option linter.unusedSimpArgs false
set_option linter.unusedVariables false

def letterN (n : Nat) : Bool := decide ((65 ≤ n ∧ n ≤ 90) ∨ (97 ≤ n ∧ n ≤ 122))
def furtherN (n : Nat) : Bool := letterN n || decide ((48 ≤ n ∧ n ≤ 57) ∨ n = 95)
def rightN (l : List Nat) : Bool := match l with
  | [] => false
  | c :: t => decide ((c :: t).length ≤ 32) && letterN c && (c :: t).all furtherN
end Go.Proofs.YtdkoafmgenbkbaaDoor
namespace Go.Proofs.YtdkoafmgenbkbaaDoor
set_option linter.unusedSimpArgs false
set_option linter.unusedVariables false
open Go.RowKit

/-- what an int's text comes to -/
def intV (r : Option Int) : Value := match r with
  | some v => .tuple #[.int .i64 v, .int .i64 0]
  | none => .tuple #[.int .i64 0, .int .i64 2]

theorem get_bs {s : ByteArray} {k : Nat} (h : k < s.size) : ∃ c, (bs s)[k]? = some c ∧ c < 256 := ⟨_, bs_at h, UInt8.toNat_lt _⟩
theorem index_txt (W : World) (t : TypeId) (ht : Tryd.prog.underlying t = some .string) {s : ByteArray} {k c : Nat} (hc : (bs s)[k]? = some c) (ik : IntKind) (i : Int) (hi : i = (k : Int)) :
    (Instr.index t (.string s) (.int ik i)).run Tryd.prog W = .ok (.int .u8 (c : Int)) W := by
  have hk : k < s.size := by rw [← bs_len]; exact (List.getElem?_eq_some_iff.1 hc).1
  subst hi
  rw [run_index_string W t _ ik _ ht, dif_pos ⟨Int.natCast_nonneg _, by omega⟩]
  have e : ∀ hh, (s[(k : Int).toNat]'hh).toNat = c := by
    intro hh
    have h2 : k < s.size := hk
    have h3 := bs_at h2
    rw [h3] at hc
    exact Option.some.inj hc
  rw [e]

set_option maxHeartbeats 1000000 in
theorem among_any (c : Nat) (s : ByteArray) (hs : s.size ≤ maxLen) (w : World) : Calls Tryd.prog 67 #[.int .u8 (c : Int), .string s] w fun e w' => e = .returned (.bool (decide (c ∈ bs s))) ∧ Quiet w w' := by
  unfold maxLen at hs
  obtain ⟨n, hn⟩ : ∃ n, s.size = n := ⟨_, rfl⟩
  have Hn := Lib.hid hn
  rw [hn] at hs
  have hn' : (s.size : Int) = (n : Int) := by rw [hn]
  clear hn
  go_enter Tryd.func67, Tryd.ntmps67
  go_wp2_with fail
  go_loopw [5] (fun j wr => ∃ k : Nat, k ≤ n ∧ j = .int .i64 k ∧ Hid (¬ c ∈ (bs s).take k) ∧ Quiet w wr) (fun j _ => n - (intOf j).toNat)
  case atStart => exact ⟨0, by omega, rfl, by simp [Hid], Quiet.refl _⟩
  case round =>
    obtain ⟨k, hk, rfl, hin, hq⟩ := hrel
    by_cases hlt : k < n
    · obtain ⟨d, hd, d256⟩ := get_bs (s := s) (k := k) (by rw [Hn.out]; exact hlt)
      have i1 := fun W => index_txt W 9 Tryd.underlying9 hd .i64 _ rfl
      have hkl := (List.getElem?_eq_some_iff.1 hd).1
      by_cases hcd : d = c
      · subst hcd
        have hv : decide (d ∈ bs s) = true := by simp; exact List.mem_iff_getElem?.2 ⟨k, hd⟩
        have Hv := Lib.hid hv
        clear hv hd hkl
        go_wp2_with fail
        go_ret
        exact ⟨by rw [Hv.out]; rfl, hq⟩
      · have e1 : ((d : Int) == (c : Int)) = false := by simp; omega
        have hnot : ¬ c ∈ (bs s).take (k + 1) := by
          rw [List.take_succ_eq_append_getElem hkl, (List.getElem?_eq_some_iff.1 hd).2]
          intro hx
          rcases List.mem_append.1 hx with hx | hx
          · exact hin.out hx
          · simp at hx; exact hcd hx.symm
        have Hnot := Lib.hid hnot
        clear hnot hd hkl
        go_wp2_with fail
        go_roundw
        case rel => exact ⟨k + 1, by omega, by go_num, Hnot.out, hq⟩
        case measure => simp [intOf]; omega
    · have hdec : decide (k < n) = false := by simp; omega
      have hv : decide (c ∈ bs s) = false := by
        have := hin.out
        rw [List.take_of_length_le (by rw [bs_len, Hn.out]; omega)] at this
        simpa using this
      have Hv := Lib.hid hv
      clear hv
      go_wp2_with fail
      go_ret
      exact ⟨by rw [Hv.out]; rfl, hq⟩

theorem figs : bs ⟨#[48, 49, 50, 51, 52, 53, 54, 55, 56, 57]⟩ = [48, 49, 50, 51, 52, 53, 54, 55, 56, 57] := rfl
theorem mem_figs (c : Nat) : decide (c ∈ bs ⟨#[48, 49, 50, 51, 52, 53, 54, 55, 56, 57]⟩) = decide (48 ≤ c ∧ c ≤ 57) := by
  rw [figs, decide_eq_decide]
  simp
  omega
theorem fig_slice (k : Nat) (h : k < 10) : (⟨#[48, 49, 50, 51, 52, 53, 54, 55, 56, 57]⟩ : ByteArray).extract k (k + 1) = txt [48 + k] := by
  apply bs_inj
  rw [bs_extract, figs, bs_txt (fun n hn => by simp at hn; omega)]
  have : ∀ k : Fin 10, (([48, 49, 50, 51, 52, 53, 54, 55, 56, 57] : List Nat).take (k.1 + 1)).drop k.1 = [48 + k.1] := by decide
  exact this ⟨k, h⟩
theorem txt_app (l m : List Nat) : txt l ++ txt m = txt (l ++ m) := by
  apply ByteArray.ext
  rw [ByteArray.data_append]
  simp [txt]

theorem empty_app (x : ByteArray) : (⟨#[]⟩ : ByteArray) ++ x = x := by
  apply ByteArray.ext
  rw [ByteArray.data_append]
  simp

end Go.Proofs.YtdkoafmgenbkbaaDoor
namespace Go.Proofs.YtdkoafmgenbkbaaDoor
set_option linter.unusedSimpArgs false
set_option linter.unusedVariables false
open Go.RowKit

theorem rightN_of {l : List Nat} {c : Nat} (h : l[0]? = some c) : rightN l = (decide (l.length ≤ 32) && letterN c && l.all furtherN) := by
  cases l with
  | nil => simp at h
  | cons a t => simp at h; subst h; rfl

theorem letter_any (n : Nat) (w : World) : Calls Tryd.prog 66 #[.int .u8 (n : Int)] w fun e w' => e = .returned (.bool (letterN n)) ∧ Quiet w w' := by
  by_cases h1 : 65 ≤ n
  · by_cases h2 : n ≤ 90
    · have hv : letterN n = true := by simp [letterN]; omega
      rw [hv]; clear hv
      go_enter Tryd.func66, Tryd.ntmps66
      go_wp2_with fail
      go_ret
      exact ⟨rfl, Quiet.refl _⟩
    · have a2 : decide ((n : Int) ≤ 90) = false := by simp; omega
      by_cases h3 : 97 ≤ n
      · by_cases h4 : n ≤ 122
        · have hv : letterN n = true := by simp [letterN]; omega
          have a4 : decide ((n : Int) ≤ 122) = true := by simp; omega
          rw [hv]; clear hv
          go_enter Tryd.func66, Tryd.ntmps66
          go_wp2_with fail
          go_ret
          exact ⟨rfl, Quiet.refl _⟩
        · have hv : letterN n = false := by simp [letterN]; omega
          have a4 : decide ((n : Int) ≤ 122) = false := by simp; omega
          rw [hv]; clear hv
          go_enter Tryd.func66, Tryd.ntmps66
          go_wp2_with fail
          go_ret
          exact ⟨rfl, Quiet.refl _⟩
      · have hv : letterN n = false := by simp [letterN]; omega
        have a3 : decide (97 ≤ (n : Int)) = false := by simp; omega
        rw [hv]; clear hv
        go_enter Tryd.func66, Tryd.ntmps66
        go_wp2_with fail
        go_ret
        exact ⟨rfl, Quiet.refl _⟩
  · have hv : letterN n = false := by simp [letterN]; omega
    have a1 : decide (65 ≤ (n : Int)) = false := by simp; omega
    have a3 : decide (97 ≤ (n : Int)) = false := by simp; omega
    have h3 : ¬ 97 ≤ n := by omega
    rw [hv]; clear hv
    go_enter Tryd.func66, Tryd.ntmps66
    go_wp2_with fail
    go_ret
    exact ⟨rfl, Quiet.refl _⟩
theorem letter_of (n : Nat) (b : Bool) (hb : letterN n = b) (w : World) : Calls Tryd.prog 66 #[.int .u8 (n : Int)] w fun e w' => e = .returned (.bool b) ∧ Quiet w w' := hb ▸ letter_any n w
theorem mem_let (c : Nat) (hc : c < 256) : decide (c ∈ bs ⟨#[65, 66, 67, 68, 69, 70, 71, 72, 73, 74, 75, 76, 77, 78, 79, 80, 81, 82, 83, 84, 85, 86, 87, 88, 89, 90, 97, 98, 99, 100, 101, 102, 103, 104, 105, 106, 107, 108, 109, 110, 111, 112, 113, 114, 115, 116, 117, 118, 119, 120, 121, 122]⟩) = letterN c := by
  have e : bs ⟨#[65, 66, 67, 68, 69, 70, 71, 72, 73, 74, 75, 76, 77, 78, 79, 80, 81, 82, 83, 84, 85, 86, 87, 88, 89, 90, 97, 98, 99, 100, 101, 102, 103, 104, 105, 106, 107, 108, 109, 110, 111, 112, 113, 114, 115, 116, 117, 118, 119, 120, 121, 122]⟩ = [65, 66, 67, 68, 69, 70, 71, 72, 73, 74, 75, 76, 77, 78, 79, 80, 81, 82, 83, 84, 85, 86, 87, 88, 89, 90, 97, 98, 99, 100, 101, 102, 103, 104, 105, 106, 107, 108, 109, 110, 111, 112, 113, 114, 115, 116, 117, 118, 119, 120, 121, 122] := rfl
  rw [e]
  have : ∀ c : Fin 256, decide (c.1 ∈ ([65, 66, 67, 68, 69, 70, 71, 72, 73, 74, 75, 76, 77, 78, 79, 80, 81, 82, 83, 84, 85, 86, 87, 88, 89, 90, 97, 98, 99, 100, 101, 102, 103, 104, 105, 106, 107, 108, 109, 110, 111, 112, 113, 114, 115, 116, 117, 118, 119, 120, 121, 122] : List Nat)) = letterN c.1 := by decide +kernel
  exact this ⟨c, hc⟩
theorem mem_fur (c : Nat) (hc : c < 256) : decide (c ∈ bs ⟨#[65, 66, 67, 68, 69, 70, 71, 72, 73, 74, 75, 76, 77, 78, 79, 80, 81, 82, 83, 84, 85, 86, 87, 88, 89, 90, 97, 98, 99, 100, 101, 102, 103, 104, 105, 106, 107, 108, 109, 110, 111, 112, 113, 114, 115, 116, 117, 118, 119, 120, 121, 122, 48, 49, 50, 51, 52, 53, 54, 55, 56, 57, 95]⟩) = furtherN c := by
  have e : bs ⟨#[65, 66, 67, 68, 69, 70, 71, 72, 73, 74, 75, 76, 77, 78, 79, 80, 81, 82, 83, 84, 85, 86, 87, 88, 89, 90, 97, 98, 99, 100, 101, 102, 103, 104, 105, 106, 107, 108, 109, 110, 111, 112, 113, 114, 115, 116, 117, 118, 119, 120, 121, 122, 48, 49, 50, 51, 52, 53, 54, 55, 56, 57, 95]⟩ = [65, 66, 67, 68, 69, 70, 71, 72, 73, 74, 75, 76, 77, 78, 79, 80, 81, 82, 83, 84, 85, 86, 87, 88, 89, 90, 97, 98, 99, 100, 101, 102, 103, 104, 105, 106, 107, 108, 109, 110, 111, 112, 113, 114, 115, 116, 117, 118, 119, 120, 121, 122, 48, 49, 50, 51, 52, 53, 54, 55, 56, 57, 95] := rfl
  rw [e]
  have : ∀ c : Fin 256, decide (c.1 ∈ ([65, 66, 67, 68, 69, 70, 71, 72, 73, 74, 75, 76, 77, 78, 79, 80, 81, 82, 83, 84, 85, 86, 87, 88, 89, 90, 97, 98, 99, 100, 101, 102, 103, 104, 105, 106, 107, 108, 109, 110, 111, 112, 113, 114, 115, 116, 117, 118, 119, 120, 121, 122, 48, 49, 50, 51, 52, 53, 54, 55, 56, 57, 95] : List Nat)) = furtherN c.1 := by decide +kernel
  exact this ⟨c, hc⟩
theorem let_of (c : Nat) (hc : c < 256) (b : Bool) (hb : letterN c = b) (w : World) : Calls Tryd.prog 67 #[.int .u8 (c : Int), .string ⟨#[65, 66, 67, 68, 69, 70, 71, 72, 73, 74, 75, 76, 77, 78, 79, 80, 81, 82, 83, 84, 85, 86, 87, 88, 89, 90, 97, 98, 99, 100, 101, 102, 103, 104, 105, 106, 107, 108, 109, 110, 111, 112, 113, 114, 115, 116, 117, 118, 119, 120, 121, 122]⟩] w fun e w' => e = .returned (.bool b) ∧ Quiet w w' := by
  have := among_any c ⟨#[65, 66, 67, 68, 69, 70, 71, 72, 73, 74, 75, 76, 77, 78, 79, 80, 81, 82, 83, 84, 85, 86, 87, 88, 89, 90, 97, 98, 99, 100, 101, 102, 103, 104, 105, 106, 107, 108, 109, 110, 111, 112, 113, 114, 115, 116, 117, 118, 119, 120, 121, 122]⟩ (by decide) w
  rwa [mem_let c hc, hb] at this
theorem fur_of (c : Nat) (hc : c < 256) (b : Bool) (hb : furtherN c = b) (w : World) : Calls Tryd.prog 67 #[.int .u8 (c : Int), .string ⟨#[65, 66, 67, 68, 69, 70, 71, 72, 73, 74, 75, 76, 77, 78, 79, 80, 81, 82, 83, 84, 85, 86, 87, 88, 89, 90, 97, 98, 99, 100, 101, 102, 103, 104, 105, 106, 107, 108, 109, 110, 111, 112, 113, 114, 115, 116, 117, 118, 119, 120, 121, 122, 48, 49, 50, 51, 52, 53, 54, 55, 56, 57, 95]⟩] w fun e w' => e = .returned (.bool b) ∧ Quiet w w' := by
  have := among_any c ⟨#[65, 66, 67, 68, 69, 70, 71, 72, 73, 74, 75, 76, 77, 78, 79, 80, 81, 82, 83, 84, 85, 86, 87, 88, 89, 90, 97, 98, 99, 100, 101, 102, 103, 104, 105, 106, 107, 108, 109, 110, 111, 112, 113, 114, 115, 116, 117, 118, 119, 120, 121, 122, 48, 49, 50, 51, 52, 53, 54, 55, 56, 57, 95]⟩ (by decide) w
  rwa [mem_fur c hc, hb] at this
theorem all_take {l : List Nat} {k c : Nat} (h : l[k]? = some c) (p : Nat → Bool) (h1 : (l.take k).all p = true) (h2 : p c = true) : (l.take (k + 1)).all p = true := by
  have hk := (List.getElem?_eq_some_iff.1 h).1
  rw [List.take_succ_eq_append_getElem hk, (List.getElem?_eq_some_iff.1 h).2, List.all_append, h1]
  simp [h2]
theorem all_no {l : List Nat} {k c : Nat} (h : l[k]? = some c) (p : Nat → Bool) (h2 : p c = false) : l.all p = false := by
  rw [List.all_eq_false]
  exact ⟨c, List.mem_iff_getElem?.2 ⟨k, h⟩, by simp [h2]⟩

set_option maxHeartbeats 2000000 in
theorem right_any (s : ByteArray) (hs : s.size ≤ maxLen) (w : World) : Calls Tryd.prog 36 #[.string s] w fun e w' => e = .returned (.bool (rightN (bs s))) ∧ Quiet w w' := by
  unfold maxLen at hs
  obtain ⟨n, hn⟩ : ∃ n, s.size = n := ⟨_, rfl⟩
  have Hn := Lib.hid hn
  have hln : (bs s).length = n := by rw [bs_len, hn]
  rw [hn] at hs
  have hn' : (s.size : Int) = (n : Int) := by rw [hn]
  clear hn
  by_cases h0 : n = 0
  · have hv : rightN (bs s) = false := by
      have : bs s = [] := List.eq_nil_of_length_eq_zero (by omega)
      rw [this]; rfl
    have HV := Lib.hid hv
    subst h0
    clear hv hln
    go_enter Tryd.func36, Tryd.ntmps36
    go_wp2_with fail
    go_ret
    exact ⟨by rw [HV.out]; rfl, Quiet.refl _⟩
  have h0' : ((n : Int) == 0) = false := by simp; omega
  obtain ⟨c0, hc0, c0256⟩ := get_bs (s := s) (k := 0) (by rw [Hn.out]; omega)
  have hr := rightN_of hc0
  have j0 := fun W => index_txt W 9 Tryd.underlying9 hc0 .i64 0 rfl
  have J0 := Lib.hid j0
  have Hc0 := Lib.hid hc0
  clear j0 hc0
  by_cases h32 : 32 < n
  · have hv : rightN (bs s) = false := by rw [hr, hln]; simp; omega
    have HV := Lib.hid hv
    have j0 := J0.out
    clear hv hln hr
    go_enter Tryd.func36, Tryd.ntmps36
    go_wp2_with fail
    go_ret
    exact ⟨by rw [HV.out]; rfl, Quiet.refl _⟩
  have h32' : decide (32 < (n : Int)) = false := by simp; omega
  rw [hln, show decide (n ≤ 32) = true by simp; omega, Bool.true_and] at hr
  rcases hl0 : letterN c0 with _ | _
  · have hv : rightN (bs s) = false := by rw [hr, hl0]; rfl
    have HV := Lib.hid hv
    have L0 := Lib.hid (fun W => letter_of c0 false hl0 W)
    have j0 := J0.out
    clear hv hln hr hl0
    go_enter Tryd.func36, Tryd.ntmps36
    go_wp2_with (go_at_call 66; refine (L0.out _).mono ?_; rintro e w1 ⟨rfl, q1⟩)
    go_ret
    exact ⟨by rw [HV.out]; rfl, q1⟩
  rw [hl0, Bool.true_and] at hr
  have L0 := Lib.hid (fun W => letter_of c0 true hl0 W)
  have Hr := Lib.hid hr
  have Hln := Lib.hid hln
  have Hfur0 := Lib.hid (show furtherN c0 = true by simp [furtherN, hl0])
  have j0 := J0.out
  clear hr hln hl0
  go_enter Tryd.func36, Tryd.ntmps36
  go_wp2_with (go_at_call 66; refine (L0.out _).mono ?_; rintro e w1 ⟨rfl, q1⟩)
  go_loopw [21] (fun i wr => ∃ k : Nat, 0 ≤ k ∧ k ≤ n ∧ i = .int .i64 k ∧ Hid (((bs s).take k).all furtherN = true) ∧ Quiet w wr) (fun i _ => n - (intOf i).toNat)
  case atStart => exact ⟨0, by omega, by omega, rfl, by simp [Hid], q1⟩
  case round =>
    obtain ⟨k, hk1, hk, rfl, hin, hq⟩ := hrel
    clear j0 q1
    have b0 : (0 : Int) ≤ (k : Int) := Int.natCast_nonneg _
    by_cases hlt : k < n
    · obtain ⟨c, hc, c256⟩ := get_bs (s := s) (k := k) (by rw [Hn.out]; exact hlt)
      have i1 := fun W => index_txt W 9 Tryd.underlying9 hc .i64 _ rfl

      have hcase : (letterN c = true ∧ furtherN c = true) ∨ (letterN c = false ∧ furtherN c = true ∧ 48 ≤ c ∧ c ≤ 57) ∨ (letterN c = false ∧ furtherN c = true ∧ 57 < c ∧ c = 95) ∨ (letterN c = false ∧ furtherN c = false ∧ c < 48 ∧ c ≠ 95) ∨ (letterN c = false ∧ furtherN c = false ∧ 57 < c ∧ c ≠ 95) := by
        rcases h : letterN c with _ | _
        · have e : furtherN c = decide ((48 ≤ c ∧ c ≤ 57) ∨ c = 95) := by simp [furtherN, h]
          rw [e]
          by_cases h1 : c < 48
          · right; right; right; left; refine ⟨rfl, ?_, h1, by omega⟩; simp; omega
          · by_cases h2 : c ≤ 57
            · right; left; refine ⟨rfl, ?_, by omega, h2⟩; simp; omega
            · by_cases h3 : c = 95
              · right; right; left; refine ⟨rfl, ?_, by omega, h3⟩; simp; omega
              · right; right; right; right; refine ⟨rfl, ?_, by omega, h3⟩; simp; omega
        · left; exact ⟨rfl, by simp [furtherN, h]⟩
      rcases hcase with ⟨hl, hf⟩ | ⟨hl, hf, x1, x2⟩ | ⟨hl, hf, x1, x2⟩ | ⟨hl, hf, x1, x2⟩ | ⟨hl, hf, x1, x2⟩
      · have L1 := Lib.hid (fun W => letter_of c true hl W)
        have HN := Lib.hid (all_take hc furtherN hin.out hf)
        clear hc hf hl
        go_wp2_with (go_at_call 66; refine (L1.out _).mono ?_; rintro e w2 ⟨rfl, q2⟩)
        go_roundw
        case rel => exact ⟨k + 1, by omega, by omega, by go_num, HN.out, hq.trans q2⟩
        case measure => simp [intOf]; omega
      · have L1 := Lib.hid (fun W => letter_of c false hl W)
        have y1 : decide ((c : Int) < 48) = false := by simp; omega
        have y2 : decide (57 < (c : Int)) = false := by simp; omega
        have HN := Lib.hid (all_take hc furtherN hin.out hf)
        clear hc hf hl
        go_wp2_with (go_at_call 66; refine (L1.out _).mono ?_; rintro e w2 ⟨rfl, q2⟩)
        go_roundw
        case rel => exact ⟨k + 1, by omega, by omega, by go_num, HN.out, hq.trans q2⟩
        case measure => simp [intOf]; omega
      · have L1 := Lib.hid (fun W => letter_of c false hl W)
        have y1 : decide ((c : Int) < 48) = false := by simp; omega
        have y3 : ((c : Int) != 95) = false := by simp; omega
        have HN := Lib.hid (all_take hc furtherN hin.out hf)
        clear hc hf hl x2
        go_wp2_with (go_at_call 66; refine (L1.out _).mono ?_; rintro e w2 ⟨rfl, q2⟩)
        go_roundw
        case rel => exact ⟨k + 1, by omega, by omega, by go_num, HN.out, hq.trans q2⟩
        case measure => simp [intOf]; omega
      · have L1 := Lib.hid (fun W => letter_of c false hl W)
        have y3 : ((c : Int) != 95) = true := by simp; omega
        have HV : Hid (rightN (bs s) = false) := Lib.hid (by rw [Hr.out]; exact all_no hc furtherN hf)
        clear hc hf hl x2
        go_wp2_with (go_at_call 66; refine (L1.out _).mono ?_; rintro e w2 ⟨rfl, q2⟩)
        go_ret
        exact ⟨by rw [HV.out]; rfl, hq.trans q2⟩
      · have L1 := Lib.hid (fun W => letter_of c false hl W)
        have y1 : decide ((c : Int) < 48) = false := by simp; omega
        have y3 : ((c : Int) != 95) = true := by simp; omega
        have HV : Hid (rightN (bs s) = false) := Lib.hid (by rw [Hr.out]; exact all_no hc furtherN hf)
        clear hc hf hl x2
        go_wp2_with (go_at_call 66; refine (L1.out _).mono ?_; rintro e w2 ⟨rfl, q2⟩)
        go_ret
        exact ⟨by rw [HV.out]; rfl, hq.trans q2⟩
    · have hdec : decide (k < n) = false := by simp; omega
      have HV : Hid (rightN (bs s) = true) := Lib.hid (by
        have := hin.out
        rw [List.take_of_length_le (by rw [Hln.out]; omega)] at this
        rw [Hr.out]; exact this)
      go_wp2_with fail
      go_ret
      exact ⟨by rw [HV.out]; rfl, hq⟩

set_option maxHeartbeats 2000000 in
theorem ref_right (s : ByteArray) (hs : s.size ≤ maxLen) (w : World) : Calls Tryd.prog 41 #[.string s] w fun e w' => e = .returned (.bool (rightN (bs s))) ∧ Quiet w w' := by
  unfold maxLen at hs
  obtain ⟨n, hn⟩ : ∃ n, s.size = n := ⟨_, rfl⟩
  have Hn := Lib.hid hn
  have hln : (bs s).length = n := by rw [bs_len, hn]
  rw [hn] at hs
  have hn' : (s.size : Int) = (n : Int) := by rw [hn]
  clear hn
  by_cases h0 : n = 0
  · have hv : rightN (bs s) = false := by
      have : bs s = [] := List.eq_nil_of_length_eq_zero (by omega)
      rw [this]; rfl
    have HV := Lib.hid hv
    subst h0
    clear hv hln
    go_enter Tryd.func41, Tryd.ntmps41
    go_wp2_with fail
    go_ret
    exact ⟨by rw [HV.out]; rfl, Quiet.refl _⟩
  have h0' : ((n : Int) == 0) = false := by simp; omega
  obtain ⟨c0, hc0, c0256⟩ := get_bs (s := s) (k := 0) (by rw [Hn.out]; omega)
  have hr := rightN_of hc0
  have j0 := fun W => index_txt W 9 Tryd.underlying9 hc0 .i64 0 rfl
  have J0 := Lib.hid j0
  have Hc0 := Lib.hid hc0
  clear j0 hc0
  by_cases h32 : 32 < n
  · have hv : rightN (bs s) = false := by rw [hr, hln]; simp; omega
    have HV := Lib.hid hv
    have j0 := J0.out
    clear hv hln hr
    go_enter Tryd.func41, Tryd.ntmps41
    go_wp2_with fail
    go_ret
    exact ⟨by rw [HV.out]; rfl, Quiet.refl _⟩
  have h32' : decide (32 < (n : Int)) = false := by simp; omega
  rw [hln, show decide (n ≤ 32) = true by simp; omega, Bool.true_and] at hr
  rcases hl0 : letterN c0 with _ | _
  · have hv : rightN (bs s) = false := by rw [hr, hl0]; rfl
    have HV := Lib.hid hv
    have L0 := Lib.hid (fun W => let_of c0 c0256 false hl0 W)
    have j0 := J0.out
    clear hv hln hr hl0
    go_enter Tryd.func41, Tryd.ntmps41
    go_wp2_with (go_at_call 67; refine (L0.out _).mono ?_; rintro e w1 ⟨rfl, q1⟩)
    go_ret
    exact ⟨by rw [HV.out]; rfl, q1⟩
  rw [hl0, Bool.true_and] at hr
  have L0 := Lib.hid (fun W => let_of c0 c0256 true hl0 W)
  have Hr := Lib.hid hr
  have Hln := Lib.hid hln
  have Hfur0 := Lib.hid (show furtherN c0 = true by simp [furtherN, hl0])
  have j0 := J0.out
  clear hr hln hl0
  go_enter Tryd.func41, Tryd.ntmps41
  go_wp2_with (go_at_call 67; refine (L0.out _).mono ?_; rintro e w1 ⟨rfl, q1⟩)
  go_loopw [3] (fun i wr => ∃ k : Nat, 1 ≤ k ∧ k ≤ n ∧ i = .int .i64 k ∧ Hid (((bs s).take k).all furtherN = true) ∧ Quiet w wr) (fun i _ => n - (intOf i).toNat)
  case atStart => exact ⟨1, by omega, by omega, rfl, all_take Hc0.out furtherN (by simp) Hfur0.out, q1⟩
  case round =>
    obtain ⟨k, hk1, hk, rfl, hin, hq⟩ := hrel
    clear j0 q1
    have b0 : (0 : Int) ≤ (k : Int) := Int.natCast_nonneg _
    by_cases hlt : k < n
    · obtain ⟨c, hc, c256⟩ := get_bs (s := s) (k := k) (by rw [Hn.out]; exact hlt)
      have i1 := fun W => index_txt W 9 Tryd.underlying9 hc .i64 _ rfl

      rcases hf : furtherN c with _ | _
      · have hv : rightN (bs s) = false := by rw [Hr.out]; exact all_no hc furtherN hf
        have HV := Lib.hid hv
        have L1 := Lib.hid (fun W => fur_of c c256 false hf W)
        clear hv hc hf
        go_wp2_with (go_at_call 67; refine (L1.out _).mono ?_; rintro e w2 ⟨rfl, q2⟩)
        go_ret
        exact ⟨by rw [HV.out]; rfl, hq.trans q2⟩
      · have hnew := all_take hc furtherN hin.out hf
        have HN := Lib.hid hnew
        have L1 := Lib.hid (fun W => fur_of c c256 true hf W)
        clear hnew hc hf
        go_wp2_with (go_at_call 67; refine (L1.out _).mono ?_; rintro e w2 ⟨rfl, q2⟩)
        go_roundw
        case rel => exact ⟨k + 1, by omega, by omega, by go_num, HN.out, hq.trans q2⟩
        case measure => simp [intOf]; omega
    · have hdec : decide (k < n) = false := by simp; omega
      have HV : Hid (rightN (bs s) = true) := Lib.hid (by
        have := hin.out
        rw [List.take_of_length_le (by rw [Hln.out]; omega)] at this
        rw [Hr.out]; exact this)
      go_wp2_with fail
      go_ret
      exact ⟨by rw [HV.out]; rfl, hq⟩

end Go.Proofs.YtdkoafmgenbkbaaDoor
namespace Go.Proofs.YtdkoafmgenbkbaaDoor
set_option linter.unusedSimpArgs false
set_option linter.unusedVariables false
open Go.RowKit

def hiddenN (n : Nat) : Bool := decide (n ≠ 10 ∧ (n < 32 ∨ 126 < n))
def digitN (n : Nat) : Nat := if 48 ≤ n ∧ n ≤ 57 then n - 48 else if 97 ≤ n ∧ n ≤ 102 then n - 97 + 10 else 16
/-- the form of a byte -/
def hexN (n : Nat) : Nat := if n < 10 then 48 + n else 87 + n
def formN (n : Nat) : List Nat := if n = 34 then [92, 34] else if n = 92 then [92, 92] else if n = 10 then [92, 110] else if 32 ≤ n ∧ n ≤ 126 then [n] else [92, 120, hexN (n / 16), hexN (n % 16)]

theorem hidden_any (n : Nat) (w : World) : Calls Tryd.prog 71 #[.int .u8 (n : Int)] w fun e w' => e = .returned (.bool (hiddenN n)) ∧ Quiet w w' := by
  by_cases h1 : n = 10
  · have hv : hiddenN n = false := by simp [hiddenN, h1]
    rw [hv]; clear hv
    subst h1
    go_enter Tryd.func71, Tryd.ntmps71
    go_wp2
    go_ret
    exact ⟨rfl, Quiet.refl _⟩
  · have hv : hiddenN n = (decide (n < 32) || decide (126 < n)) := by rw [Bool.eq_iff_iff]; simp [hiddenN, h1]
    rw [hv]; clear hv
    have h1' : ((n : Int) != 10) = true := by simp; omega
    by_cases h2 : n < 32
    · go_enter Tryd.func71, Tryd.ntmps71
      go_wp2
      go_ret
      exact ⟨by simp [h1', h2], Quiet.refl _⟩
    · have h2' : decide ((n : Int) < 32) = false := by simp; omega
      go_enter Tryd.func71, Tryd.ntmps71
      go_wp2
      go_ret
      exact ⟨by simp [h1', h2]; omega, Quiet.refl _⟩

theorem digit_any (n : Nat) (hn : n < 256) (w : World) : Calls Tryd.prog 92 #[.int .u8 (n : Int)] w fun e w' => e = .returned (.int .u8 (digitN n : Int)) ∧ Quiet w w' := by
  by_cases h1 : 48 ≤ n
  · by_cases h2 : n ≤ 57
    · have hv : (digitN n : Int) = (n : Int) - 48 := by simp [digitN, h1, h2]; omega
      rw [hv]; clear hv
      go_enter Tryd.func92, Tryd.ntmps92
      go_wp2
      go_ret
      exact ⟨rfl, Quiet.refl _⟩
    · by_cases h3 : 97 ≤ n
      · by_cases h4 : n ≤ 102
        · have hv : (digitN n : Int) = (n : Int) - 97 + 10 := by simp [digitN, h1, h2, h3, h4]; omega
          rw [hv]; clear hv
          go_enter Tryd.func92, Tryd.ntmps92
          go_wp2
          go_ret
          exact ⟨rfl, Quiet.refl _⟩
        · have hv : digitN n = 16 := by simp [digitN, h2, h4]
          rw [hv]; clear hv
          go_enter Tryd.func92, Tryd.ntmps92
          go_wp2
          go_ret
          exact ⟨rfl, Quiet.refl _⟩
      · have hv : digitN n = 16 := by simp [digitN, h2, h3]
        rw [hv]; clear hv
        go_enter Tryd.func92, Tryd.ntmps92
        go_wp2
        go_ret
        exact ⟨rfl, Quiet.refl _⟩
  · have hv : digitN n = 16 := by simp [digitN, h1]; omega
    rw [hv]; clear hv
    have h3 : ¬ 97 ≤ n := by omega
    go_enter Tryd.func92, Tryd.ntmps92
    go_wp2
    go_ret
    exact ⟨rfl, Quiet.refl _⟩

theorem hex_digit (k : Nat) (h : k < 16) : (⟨#[48, 49, 50, 51, 52, 53, 54, 55, 56, 57, 97, 98, 99, 100, 101, 102]⟩ : ByteArray)[k]'h = UInt8.ofNat (hexN k) := by
  have : ∀ k : Fin 16, (⟨#[48, 49, 50, 51, 52, 53, 54, 55, 56, 57, 97, 98, 99, 100, 101, 102]⟩ : ByteArray)[k.1]'k.2 = UInt8.ofNat (hexN k.1) := by decide
  exact this ⟨k, h⟩
theorem hexN_lt (k : Nat) (h : k < 16) : hexN k < 256 := by unfold hexN; split <;> omega
theorem index_hex (W : World) (t : TypeId) (ht : Tryd.prog.underlying t = some .string) (k : Nat) (h : k < 16) (ik : IntKind) (i : Int) (hi : i = (k : Int)) :
    (Instr.index t (.string ⟨#[48, 49, 50, 51, 52, 53, 54, 55, 56, 57, 97, 98, 99, 100, 101, 102]⟩) (.int ik i)).run Tryd.prog W = .ok (.int .u8 (hexN k : Int)) W := by
  subst hi
  rw [run_index_string W t _ ik _ ht, dif_pos ⟨Int.natCast_nonneg _, by show (k : Int) < ((16 : Nat) : Int); omega⟩]
  have e : ∀ hh, (⟨#[48, 49, 50, 51, 52, 53, 54, 55, 56, 57, 97, 98, 99, 100, 101, 102]⟩ : ByteArray)[(k : Int).toNat]'hh = UInt8.ofNat (hexN k) := by
    intro hh
    exact hex_digit k h
  rw [e]
  simp [Nat.mod_eq_of_lt (hexN_lt k h)]

set_option maxRecDepth 100000 in
set_option maxHeartbeats 1000000 in
theorem form_any (n : Nat) (hn : n < 256) (w : World) : Calls Tryd.prog 72 #[.int .u8 (n : Int)] w fun e w' => e = .returned (.string (txt (formN n))) ∧ Below w.heap.size w w' := by
  by_cases h1 : n = 34
  · subst h1
    go_enter Tryd.func72, Tryd.ntmps72
    go_wp2
    go_ret
    exact ⟨rfl, Below.refl _ _⟩
  by_cases h2 : n = 92
  · subst h2
    go_enter Tryd.func72, Tryd.ntmps72
    go_wp2
    go_ret
    exact ⟨rfl, Below.refl _ _⟩
  by_cases h3 : n = 10
  · subst h3
    go_enter Tryd.func72, Tryd.ntmps72
    go_wp2
    go_ret
    exact ⟨rfl, Below.refl _ _⟩
  have e1 : ((n : Int) == 34) = false := by simp; omega
  have e2 : ((n : Int) == 92) = false := by simp; omega
  have e3 : ((n : Int) == 10) = false := by simp; omega
  by_cases h4 : 32 ≤ n ∧ n ≤ 126
  · have hv : formN n = [n] := by simp [formN, h1, h2, h3, h4]
    rw [hv]; clear hv
    obtain ⟨h4, h5⟩ := h4
    have hc : (convert 69 9 (.slice (some ⟨w.heap.size, 0, none⟩) 1 1)).run Tryd.prog (w.alloc (.cells #[.int .u8 (n : Int)] 5)) = .ok (.string (txt [n])) (w.alloc (.cells #[.int .u8 (n : Int)] 5)) :=
      run_text_of_row 69 9 5 Tryd.underlying69 Tryd.underlying5 Tryd.underlying9 (own_bytes (base := 0) (xs := [.int .u8 (n : Int)]) rfl (Nat.zero_le _) rfl (fun m hm => by simp at hm; omega) (by simp [maxLen]) 1 1 rfl rfl)
    have Hc := Lib.hid hc
    clear hc
    go_enter Tryd.func72, Tryd.ntmps72
    have hc := Hc.out
    go_wp2
    go_ret
    exact ⟨rfl, (Below.refl _ _).alloc (Nat.le_refl _) _⟩
  · have hv : txt (formN n) = ⟨#[92, 120]⟩ ++ txt [hexN (n / 16), hexN (n % 16)] := by
      have : formN n = [92, 120] ++ [hexN (n / 16), hexN (n % 16)] := by simp [formN, h1, h2, h3, h4]
      rw [this]
      apply ByteArray.ext
      rw [ByteArray.data_append]
      simp [txt]
    rw [hv]; clear hv
    have i1 : ∀ W, (Instr.index 9 (.string ⟨#[48, 49, 50, 51, 52, 53, 54, 55, 56, 57, 97, 98, 99, 100, 101, 102]⟩) (.int .u8 ((n : Int) / 16))).run Tryd.prog W = .ok (.int .u8 (hexN (n / 16) : Int)) W := fun W => index_hex W _ Tryd.underlying9 (n / 16) (by omega) _ _ (by omega)
    have i2 : ∀ W, (Instr.index 9 (.string ⟨#[48, 49, 50, 51, 52, 53, 54, 55, 56, 57, 97, 98, 99, 100, 101, 102]⟩) (.int .u8 ((n : Int) % 16))).run Tryd.prog W = .ok (.int .u8 (hexN (n % 16) : Int)) W := fun W => index_hex W _ Tryd.underlying9 (n % 16) (by omega) _ _ (by omega)
    have hx1 := hexN_lt (n / 16) (by omega)
    have hx2 := hexN_lt (n % 16) (by omega)
    generalize hexN (n / 16) = x1 at *
    generalize hexN (n % 16) = x2 at *
    have hc : (convert 69 9 (.slice (some ⟨w.heap.size, 0, none⟩) 2 2)).run Tryd.prog (w.alloc (.cells #[.int .u8 (x1 : Int), .int .u8 (x2 : Int)] 5)).drew = .ok (.string (txt [x1, x2])) (w.alloc (.cells #[.int .u8 (x1 : Int), .int .u8 (x2 : Int)] 5)).drew :=
      run_text_of_row 69 9 5 Tryd.underlying69 Tryd.underlying5 Tryd.underlying9 (own_bytes (base := 0) (xs := [.int .u8 (x1 : Int), .int .u8 (x2 : Int)]) rfl (Nat.zero_le _) rfl (fun m hm => by simp at hm; omega) (by simp [maxLen]) 2 2 rfl rfl).drew
    have Hc := Lib.hid hc
    have I1 := Lib.hid i1
    have I2 := Lib.hid i2
    clear hc i1 i2
    have hsz : (txt [x1, x2]).size = 2 := txt_size _
    have h5 : (32 ≤ n ∧ ¬ n ≤ 126) ∨ ¬ 32 ≤ n := by omega
    rcases h5 with ⟨h5, h6⟩ | h5
    all_goals
      go_enter Tryd.func72, Tryd.ntmps72
      go_wp2
      have hc := Hc.out
      have i1 := I1.out
      have i2 := I2.out
      go_region
      all_goals go_wp2
      all_goals go_ret
      all_goals exact ⟨rfl, ((Below.refl _ w).alloc (Nat.le_refl _) _).drew⟩
end Go.Proofs.YtdkoafmgenbkbaaDoor
namespace Go.Proofs.YtdkoafmgenbkbaaDoor
set_option linter.unusedSimpArgs false
set_option linter.unusedVariables false

/-- what stands behind a '\' -/
def esc : List Nat → Option (Nat × Nat) × Nat
  | [] => (none, 1)
  | d :: t => if d = 34 ∨ d = 92 then (some (d, 2), 2) else if d = 110 then (some (10, 2), 2) else if d ≠ 120 then (none, 1) else
    match t with
    | [] => (none, 2)
    | h :: t => if 15 < digitN h ∨ (hiddenN (16 * digitN h) = false ∧ hiddenN (16 * digitN h + 15) = false) then (none, 2) else
      match t with
      | [] => (none, 3)
      | l :: _ => if 15 < digitN l ∨ hiddenN (16 * digitN h + digitN l) = false then (none, 3) else (some (16 * digitN h + digitN l, 4), 4)
/-- one byte's form, read: the byte and how many bytes it takes, or how many are right -/
def one : List Nat → Option (Nat × Nat) × Nat
  | [] => (none, 0)
  | c :: t => if c = 92 then esc t else if c < 32 ∨ 126 < c then (none, 0) else (some (c, 1), 1)
/-- how many two lists begin with alike -/
def common : List Nat → List Nat → Nat
  | a :: l, b :: m => if a = b then common l m + 1 else 0
  | _, _ => 0

theorem digit_hex (k : Nat) (h : k < 16) : digitN (hexN k) = k := by
  have : ∀ k : Fin 16, digitN (hexN k.1) = k.1 := by decide
  exact this ⟨k, h⟩
theorem hex_of_digit (n : Nat) (h : digitN n ≤ 15) : hexN (digitN n) = n := by
  unfold digitN at h ⊢
  unfold hexN
  split at h
  · rename_i h1
    rw [if_pos h1, if_pos (by omega)]; omega
  · rename_i h1
    split at h
    · rename_i h2
      rw [if_neg h1, if_pos h2, if_neg (by omega)]; omega
    · omega
theorem form_hidden {c : Nat} (h : hiddenN c = true) : formN c = [92, 120, hexN (c / 16), hexN (c % 16)] := by
  simp only [hiddenN, decide_eq_true_eq] at h
  unfold formN
  rw [if_neg (by omega), if_neg (by omega), if_neg (by omega), if_neg (by omega)]
theorem form_plain {c : Nat} (h1 : 32 ≤ c) (h2 : c ≤ 126) (h3 : c ≠ 34) (h4 : c ≠ 92) : formN c = [c] := by
  unfold formN
  rw [if_neg h3, if_neg h4, if_neg (by omega), if_pos ⟨h1, h2⟩]
/-- a byte's form, by its four kinds -/
theorem form_cases (c : Nat) : (c = 34 ∧ formN c = [92, 34]) ∨ (c = 92 ∧ formN c = [92, 92]) ∨ (c = 10 ∧ formN c = [92, 110]) ∨ (32 ≤ c ∧ c ≤ 126 ∧ c ≠ 34 ∧ c ≠ 92 ∧ formN c = [c]) ∨ (hiddenN c = true ∧ formN c = [92, 120, hexN (c / 16), hexN (c % 16)]) := by
  by_cases h1 : c = 34
  · subst h1; exact Or.inl ⟨rfl, rfl⟩
  by_cases h2 : c = 92
  · subst h2; exact Or.inr (Or.inl ⟨rfl, rfl⟩)
  by_cases h3 : c = 10
  · subst h3; exact Or.inr (Or.inr (Or.inl ⟨rfl, rfl⟩))
  by_cases h4 : 32 ≤ c ∧ c ≤ 126
  · exact Or.inr (Or.inr (Or.inr (Or.inl ⟨h4.1, h4.2, h1, h2, form_plain h4.1 h4.2 h1 h2⟩)))
  · have h : hiddenN c = true := by simp only [hiddenN, decide_eq_true_eq]; omega
    exact Or.inr (Or.inr (Or.inr (Or.inr ⟨h, form_hidden h⟩)))
theorem form_len (c : Nat) : 1 ≤ (formN c).length ∧ (formN c).length ≤ 4 := by
  rcases form_cases c with ⟨_, h⟩ | ⟨_, h⟩ | ⟨_, h⟩ | ⟨_, _, _, _, h⟩ | ⟨_, h⟩ <;> rw [h] <;> simp
theorem row_hidden {c : Nat} (hc : c < 256) (h : hiddenN c = true) : hiddenN (16 * (c / 16)) = true ∨ hiddenN (16 * (c / 16) + 15) = true := by
  simp only [hiddenN, decide_eq_true_eq] at *
  omega

/-- a form that fits is what is read -/
theorem one_of_form {c : Nat} (hc : c < 256) (t : List Nat) : one (formN c ++ t) = (some (c, (formN c).length), (formN c).length) := by
  rcases form_cases c with ⟨rfl, h⟩ | ⟨rfl, h⟩ | ⟨rfl, h⟩ | ⟨h1, h2, h3, h4, h⟩ | ⟨h0, h⟩
  · rfl
  · rfl
  · rfl
  · rw [h]
    show (if c = 92 then _ else _) = _
    rw [if_neg h4, if_neg (by omega)]
    rfl
  · rw [h]
    have d1 := digit_hex (c / 16) (by omega)
    have d2 := digit_hex (c % 16) (by omega)
    have e : 16 * (c / 16) + c % 16 = c := by omega
    have hr := row_hidden hc h0
    have k1 : ¬ (15 < c / 16 ∨ (hiddenN (16 * (c / 16)) = false ∧ hiddenN (16 * (c / 16) + 15) = false)) := by
      intro hh
      rcases hh with hh | ⟨a, b⟩
      · omega
      · rw [a, b] at hr; simp at hr
    have k2 : ¬ (15 < c % 16 ∨ hiddenN c = false) := by
      intro hh
      rcases hh with hh | a
      · omega
      · rw [a] at h0; cases h0
    simp only [List.cons_append, List.nil_append, one, esc, d1, d2, e]
    rw [if_pos trivial, if_neg (by omega), if_neg (by omega), if_neg (by simp), if_neg k1, if_neg k2]
    rfl
theorem common_le_left : ∀ (l m : List Nat), common l m ≤ l.length
  | [], _ => by simp [common]
  | _ :: _, [] => by simp [common]
  | a :: l, b :: m => by
    simp only [common, List.length_cons]
    split
    · have := common_le_left l m; omega
    · omega
theorem common_full : ∀ (l m : List Nat), common l m = l.length → ∃ t, m = l ++ t
  | [], m, _ => ⟨m, rfl⟩
  | _ :: _, [], h => by simp [common] at h
  | a :: l, b :: m, h => by
    simp only [common, List.length_cons] at h
    split at h
    · rename_i e
      obtain ⟨t, ht⟩ := common_full l m (by omega)
      exact ⟨t, by rw [ht, e]; rfl⟩
    · omega
/-- where none fits: how far the farthest goes -/
theorem one_none {r : List Nat} (hr : Bytes r) {far : Nat} (h : one r = (none, far)) : (∀ c, c < 256 → common (formN c) r ≤ far) ∧ (∃ c, c < 256 ∧ common (formN c) r = far) := by
  have f34 : formN 34 = [92, 34] := rfl
  have f0 : formN 0 = [92, 120, 48, 48] := rfl
  match r, h, hr with
  | [], h, _ =>
    simp only [one, Prod.mk.injEq, true_and] at h
    subst h
    exact ⟨fun c _ => by cases formN c <;> simp [common], 0, by omega, rfl⟩
  | b :: t, h, hr =>
    by_cases hb : b = 92
    · subst hb
      simp only [one, if_pos] at h
      have key : ∀ c, c < 256 → common (formN c) (92 :: t) = (match formN c with | 92 :: f => common f t + 1 | _ => 0) := by
        intro c hc
        rcases form_cases c with ⟨_, h⟩ | ⟨_, h⟩ | ⟨_, h⟩ | ⟨_, _, _, h4, h⟩ | ⟨_, h⟩ <;> rw [h] <;> simp [common, *]
      match t, h, hr with
      | [], h, _ =>
        simp only [esc, Prod.mk.injEq, true_and] at h
        subst h
        refine ⟨fun c hc => ?_, 34, by omega, by rw [f34]; rfl⟩
        rw [key c hc]
        rcases form_cases c with ⟨_, h⟩ | ⟨_, h⟩ | ⟨_, h⟩ | ⟨_, _, _, h4, h⟩ | ⟨_, h⟩ <;> rw [h] <;> simp [common, *]
      | d :: t, h, hr =>
        by_cases hd : d = 34 ∨ d = 92
        · simp [esc, hd] at h
        · by_cases hn : d = 110
          · simp [esc, hn] at h
          · by_cases hx : d = 120
            · subst hx
              match t, h, hr with
              | [], h, _ =>
                simp [esc] at h
                subst h
                refine ⟨fun c hc => ?_, 0, by omega, by rw [f0]; rfl⟩
                rw [key c hc]
                rcases form_cases c with ⟨_, h⟩ | ⟨_, h⟩ | ⟨_, h⟩ | ⟨_, _, _, h4, h⟩ | ⟨_, h⟩ <;> rw [h] <;> simp [common, *]
              | hh :: t, h, hr =>
                by_cases hg : 15 < digitN hh ∨ (hiddenN (16 * digitN hh) = false ∧ hiddenN (16 * digitN hh + 15) = false)
                · simp [esc, hg] at h
                  subst h
                  refine ⟨fun c hc => ?_, ?_⟩
                  · rw [key c hc]
                    rcases form_cases c with ⟨_, h⟩ | ⟨_, h⟩ | ⟨_, h⟩ | ⟨_, _, _, h4, h⟩ | ⟨h0, h⟩ <;> rw [h] <;> simp [common, *]
                    have hne : hexN (c / 16) ≠ hh := by
                      intro e
                      have d1 := digit_hex (c / 16) (by omega)
                      rw [e] at d1
                      rw [d1] at hg
                      have := row_hidden hc h0
                      rcases hg with hg | ⟨a, b⟩
                      · omega
                      · rw [a, b] at this; simp at this
                    simp [hne]
                  · -- a hidden byte of another row
                    by_cases h48 : hh = 48
                    · subst h48
                      exfalso
                      revert hg
                      decide
                    · exact ⟨0, by omega, by rw [f0]; simp [common, Ne.symm h48]⟩
                · have hg1 : digitN hh ≤ 15 := by omega
                  have hg2 : hiddenN (16 * digitN hh) = true ∨ hiddenN (16 * digitN hh + 15) = true := by
                    by_cases a : hiddenN (16 * digitN hh) = true
                    · exact Or.inl a
                    · refine Or.inr ?_
                      by_cases b : hiddenN (16 * digitN hh + 15) = true
                      · exact b
                      · exact absurd (Or.inr ⟨by simpa using a, by simpa using b⟩) hg
                  have hex := hex_of_digit hh hg1
                  have wit : ∃ c, c < 256 ∧ hiddenN c = true ∧ c / 16 = digitN hh := by
                    rcases hg2 with a | a
                    · exact ⟨_, by omega, a, by omega⟩
                    · exact ⟨_, by omega, a, by omega⟩
                  match t, h, hr with
                  | [], h, _ =>
                    simp [esc, hg] at h
                    subst h
                    refine ⟨fun c hc => ?_, ?_⟩
                    · rw [key c hc]
                      rcases form_cases c with ⟨_, h⟩ | ⟨_, h⟩ | ⟨_, h⟩ | ⟨_, _, _, h4, h⟩ | ⟨h0, h⟩ <;> rw [h] <;> simp [common, *]
                      split <;> omega
                    · obtain ⟨c, hc, h0, h1⟩ := wit
                      exact ⟨c, hc, by rw [form_hidden h0, h1, hex]; simp [common]⟩
                  | lo :: t, h, hr =>
                    by_cases hl : 15 < digitN lo ∨ hiddenN (16 * digitN hh + digitN lo) = false
                    · simp [esc, hg, hl] at h
                      subst h
                      have no : ∀ c, c < 256 → hiddenN c = true → c / 16 = digitN hh → hexN (c % 16) ≠ lo := by
                        intro c hc h0 h1 e
                        have d1 := digit_hex (c % 16) (by omega)
                        rw [e] at d1
                        rcases hl with hl | hl
                        · omega
                        · have : 16 * digitN hh + digitN lo = c := by omega
                          rw [this, h0] at hl
                          cases hl
                      refine ⟨fun c hc => ?_, ?_⟩
                      · rw [key c hc]
                        rcases form_cases c with ⟨_, h⟩ | ⟨_, h⟩ | ⟨_, h⟩ | ⟨_, _, _, h4, h⟩ | ⟨h0, h⟩ <;> rw [h] <;> simp [common, *]
                        by_cases e : hexN (c / 16) = hh
                        · have h1 : c / 16 = digitN hh := by rw [← e, digit_hex (c / 16) (by omega)]
                          have := no c hc h0 h1
                          simp [e, this]
                        · simp [e]
                      · obtain ⟨c, hc, h0, h1⟩ := wit
                        exact ⟨c, hc, by rw [form_hidden h0, h1, hex]; simp [common, no c hc h0 h1]⟩
                    · simp [esc, hg, hl] at h
            · have hd' : ¬ d = 34 ∧ ¬ d = 92 := by omega
              simp [esc, hd'.1, hd'.2, hn, hx] at h
              subst h
              refine ⟨fun c hc => ?_, 34, by omega, by rw [f34]; simp [common, Ne.symm hd'.1]⟩
              rw [key c hc]
              rcases form_cases c with ⟨_, h⟩ | ⟨_, h⟩ | ⟨_, h⟩ | ⟨_, _, _, h4, h⟩ | ⟨_, h⟩ <;> rw [h] <;> simp [common, Ne.symm hd'.1, Ne.symm hd'.2, Ne.symm hn, Ne.symm hx, *]
    · by_cases hp : b < 32 ∨ 126 < b
      · simp [one, hb, hp] at h
        subst h
        refine ⟨fun c hc => ?_, 0, by omega, by rw [f0]; simp [common, Ne.symm hb]⟩
        rcases form_cases c with ⟨_, h⟩ | ⟨_, h⟩ | ⟨_, h⟩ | ⟨h1, h2, _, h4, h⟩ | ⟨_, h⟩ <;> rw [h] <;> simp [common, Ne.symm hb]
        omega
      · simp [one, hb, hp] at h
end Go.Proofs.YtdkoafmgenbkbaaDoor
namespace Go.Proofs.YtdkoafmgenbkbaaDoor
set_option linter.unusedSimpArgs false
set_option linter.unusedVariables false
open Go.RowKit

theorem drop_bs {l : List Nat} {k c : Nat} (h : l[k]? = some c) : l.drop k = c :: l.drop (k + 1) := by
  have hk := (List.getElem?_eq_some_iff.1 h).1
  rw [List.drop_eq_getElem_cons hk, (List.getElem?_eq_some_iff.1 h).2]

set_option maxHeartbeats 1000000 in
theorem common_any (s t : ByteArray) (hs : s.size ≤ maxLen) (ht : t.size ≤ maxLen) (w : World) : Calls Tryd.prog 83 #[.string s, .string t] w fun e w' => e = .returned (.int .i64 (common (bs s) (bs t) : Int)) ∧ Quiet w w' := by
  unfold maxLen at hs ht
  go_enter Tryd.func83, Tryd.ntmps83
  go_wp2_with fail
  go_loopw [5] (fun j wr => ∃ k : Nat, j = .int .i64 k ∧ k ≤ s.size ∧ k ≤ t.size ∧ Hid (common (bs s) (bs t) = k + common ((bs s).drop k) ((bs t).drop k)) ∧ Quiet w wr) (fun j _ => s.size - (intOf j).toNat)
  case atStart => exact ⟨0, rfl, by omega, by omega, by simp [Hid], Quiet.refl _⟩
  case round =>
    obtain ⟨k, rfl, h1, h2, h3, hq⟩ := hrel
    have b0 : (0 : Int) ≤ (k : Int) := Int.natCast_nonneg _
    by_cases g1 : k < s.size
    · have p1 : decide ((k : Int) < (s.size : Int)) = true := by simp; omega
      obtain ⟨c, e1, c256⟩ := get_bs g1
      have i1 := fun W => index_txt W 9 Tryd.underlying9 e1 .i64 _ rfl
      by_cases g2 : k < t.size
      · have p2 : decide ((k : Int) < (t.size : Int)) = true := by simp; omega
        obtain ⟨d, e2, d256⟩ := get_bs g2
        have i2 := fun W => index_txt W 9 Tryd.underlying9 e2 .i64 _ rfl
        by_cases g3 : c = d
        · subst g3
          have p3 : ((c : Int) == (c : Int)) = true := by simp
          have E1 := Lib.hid e1
          have E2 := Lib.hid e2
          clear e1 e2
          go_wp2_with fail
          go_quiet (fail)
          go_wp2_with fail
          go_roundw
          case rel =>
            refine ⟨k + 1, by go_num, by omega, by omega, ?_, (by first | exact hq.drewN _ | exact hq)⟩
            have h := h3.out
            rw [drop_bs E1.out, drop_bs E2.out, common, if_pos rfl] at h
            show _ = _
            omega
          case measure => simp [intOf]; omega
        · have p3 : ((c : Int) == (d : Int)) = false := by simp; omega
          have hv : common (bs s) (bs t) = k := by
            have h := h3.out
            rw [drop_bs e1, drop_bs e2, common, if_neg g3] at h
            omega
          have Hv := Lib.hid hv
          clear hv e1 e2
          go_wp2_with fail
          go_quiet (fail)
          go_wp2_with fail
          go_ret
          exact ⟨by rw [Hv.out]; rfl, (by first | exact hq.drewN _ | exact hq)⟩
      · have p2 : decide ((k : Int) < (t.size : Int)) = false := by simp; omega
        have hv : common (bs s) (bs t) = k := by
          have h := h3.out
          have : (bs t).drop k = [] := List.drop_of_length_le (by rw [bs_len]; omega)
          rw [this] at h
          cases hd : (bs s).drop k <;> rw [hd] at h <;> simp only [common] at h <;> omega
        have Hv := Lib.hid hv
        clear hv e1
        go_wp2_with fail
        go_quiet (fail)
        go_wp2_with fail
        go_ret
        exact ⟨by rw [Hv.out]; rfl, (by first | exact hq.drewN _ | exact hq)⟩
    · have p1 : decide ((k : Int) < (s.size : Int)) = false := by simp; omega
      have hv : common (bs s) (bs t) = k := by
        have h := h3.out
        have : (bs s).drop k = [] := List.drop_of_length_le (by rw [bs_len]; omega)
        rw [this] at h
        simp only [common] at h
        omega
      have Hv := Lib.hid hv
      clear hv
      go_wp2_with fail
      go_quiet (fail)
      go_wp2_with fail
      go_ret
      exact ⟨by rw [Hv.out]; rfl, (by first | exact hq.drewN _ | exact hq)⟩

/-- what escape answers of what stands behind the '\\' -/
def escV (l : List Nat) : Value := match esc l with
  | (some (c, n), _) => .tuple #[.int .u8 (c : Int), .int .i64 (n : Int), .bool true]
  | (none, n) => .tuple #[.int .u8 0, .int .i64 (n : Int), .bool false]

theorem bits_or (h l : Nat) (hh : h < 16) (hl : l < 16) : bits .or .u8 ((h : Int) * 16) (l : Int) = (h : Int) * 16 + (l : Int) := by
  have : ∀ h l : Fin 16, bits .or .u8 ((h.1 : Int) * 16) (l.1 : Int) = (h.1 : Int) * 16 + (l.1 : Int) := by decide +kernel
  exact this ⟨h, hh⟩ ⟨l, hl⟩
theorem hidden_at (i : Int) (n : Nat) (b : Bool) (hi : i = (n : Int)) (hb : hiddenN n = b) (w : World) : Calls Tryd.prog 71 #[.int .u8 i] w fun e w' => e = .returned (.bool b) ∧ Quiet w w' := by
  subst hi hb
  exact hidden_any n w

set_option maxHeartbeats 2000000 in
theorem escape_any (s : ByteArray) (b : Nat) (l : List Nat) (hl : bs s = b :: l) (hs : s.size ≤ maxLen) (w : World) : Calls Tryd.prog 82 #[.string s] w fun e w' => e = .returned (escV l) ∧ Quiet w w' := by
  unfold maxLen at hs
  have hsz : s.size = l.length + 1 := by rw [← bs_len, hl]; rfl
  have hby : Bytes l := fun n hn => bs_bytes s n (by rw [hl]; exact List.mem_cons_of_mem _ hn)
  match l, hl, hsz, hby with
  | [], hl, hsz, _ =>
    simp at hsz
    go_enter Tryd.func82, Tryd.ntmps82
    go_wp2_with fail
    go_ret3
    exact ⟨rfl, Quiet.refl _⟩
  | d :: t, hl, hsz, hby =>
    have d256 : d < 256 := hby d (List.mem_cons_self ..)
    have hge : ¬ s.size < 2 := by simp at hsz; omega
    have i1 := fun W => index_txt W 9 Tryd.underlying9 (s := s) (k := 1) (c := d) (by rw [hl]; rfl) .i64 1 rfl
    have I1 := Lib.hid i1
    clear i1
    by_cases h1 : d = 34
    · subst h1
      have i1 := I1.out
      go_enter Tryd.func82, Tryd.ntmps82
      go_wp2_with fail
      go_ret3
      exact ⟨rfl, Quiet.refl _⟩
    have e1 : ((d : Int) == 34) = false := by simp; omega
    by_cases h2 : d = 92
    · subst h2
      have i1 := I1.out
      go_enter Tryd.func82, Tryd.ntmps82
      go_wp2_with fail
      go_ret3
      exact ⟨rfl, Quiet.refl _⟩
    have e2 : ((d : Int) == 92) = false := by simp; omega
    by_cases h3 : d = 110
    · subst h3
      have i1 := I1.out
      go_enter Tryd.func82, Tryd.ntmps82
      go_wp2_with fail
      go_ret3
      exact ⟨rfl, Quiet.refl _⟩
    have e3 : ((d : Int) == 110) = false := by simp; omega
    by_cases h4 : d = 120
    · subst h4
      match t, hl, hsz, hby with
      | [], hl, hsz, _ =>
        have i1 := I1.out
        simp at hsz
        go_enter Tryd.func82, Tryd.ntmps82
        go_wp2_with fail
        go_ret3
        exact ⟨rfl, Quiet.refl _⟩
      | h :: t, hl, hsz, hby =>
        have h256 : h < 256 := hby h (by simp)
        have hge3 : ¬ s.size < 3 := by simp at hsz; omega
        have i2 := fun W => index_txt W 9 Tryd.underlying9 (s := s) (k := 2) (c := h) (by rw [hl]; rfl) .i64 2 rfl
        have I2 := Lib.hid i2
        clear i2
        have hd : digitN h ≤ 16 := by unfold digitN; split <;> (try split) <;> omega
        have D1 := Lib.hid (fun W => digit_any h h256 W)
        obtain ⟨dh, hdh⟩ : ∃ dh, digitN h = dh := ⟨_, rfl⟩
        rw [hdh] at hd D1
        by_cases h5 : 15 < dh
        · have hv : esc (120 :: h :: t) = (none, 2) := by simp [esc, hdh, h5]
          have Hv : escV (120 :: h :: t) = .tuple #[.int .u8 0, .int .i64 2, .bool false] := by simp [escV, hv]
          have HV := Lib.hid Hv
          clear hv Hv
          have i1 := I1.out
          have i2 := I2.out
          go_enter Tryd.func82, Tryd.ntmps82
          go_wp2_with (go_at_call 92; refine (D1.out _).mono ?_; rintro e w1 ⟨rfl, q1⟩)
          go_ret3
          exact ⟨by rw [HV.out]; rfl, q1⟩
        · obtain ⟨ha, hha⟩ : ∃ ha, hiddenN (16 * dh) = ha := ⟨_, rfl⟩
          obtain ⟨hb, hhb⟩ : ∃ hb, hiddenN (16 * dh + 15) = hb := ⟨_, rfl⟩
          have A1 := Lib.hid (fun W => hidden_at ((dh : Int) * 16) (16 * dh) ha (by omega) hha W)
          have B1 := Lib.hid (fun W => hidden_at ((dh : Int) * 16 + 15) (16 * dh + 15) hb (by omega) hhb W)
          have o1 : bits .or .u8 ((dh : Int) * 16) 15 = (dh : Int) * 16 + 15 := bits_or dh 15 (by omega) (by omega)
          have dlt : decide (15 < (dh : Int)) = false := by simp; omega
          by_cases hc : ha = false ∧ hb = false
          · obtain ⟨rfl, rfl⟩ := hc
            have Hv : escV (120 :: h :: t) = .tuple #[.int .u8 0, .int .i64 2, .bool false] := by simp [escV, esc, hdh, h5, hha, hhb]
            have HV := Lib.hid Hv
            clear Hv hha hhb
            have i1 := I1.out
            have i2 := I2.out
            have tok : True := trivial
            go_enter Tryd.func82, Tryd.ntmps82
            go_wp2_with (first
              | (go_at_call 92; refine (D1.out _).mono ?_; rintro e w1 ⟨rfl, q1⟩)
              | (go_at_call 71; have _t := tok; refine (A1.out _).mono ?_; rintro e w2 ⟨rfl, q2⟩; clear tok _t)
              | (go_at_call 71; refine (B1.out _).mono ?_; rintro e w3 ⟨rfl, q3⟩))
            go_ret3
            exact ⟨by rw [HV.out]; rfl, (q1.trans q2).trans q3⟩
          · -- it may be hidden: go on
            have Hor : ha = true ∨ (ha = false ∧ hb = true) := by
              cases ha <;> cases hb <;> simp at hc ⊢
            have hcond : ¬ (15 < dh ∨ (hiddenN (16 * dh) = false ∧ hiddenN (16 * dh + 15) = false)) := by
              rw [hha, hhb]
              intro hx
              rcases hx with hx | hx
              · exact h5 hx
              · exact hc hx
            clear hha hhb
            match t, hl, hsz, hby with
            | [], hl, hsz, _ =>
              have Hv : escV [120, h] = .tuple #[.int .u8 0, .int .i64 3, .bool false] := by simp only [escV, esc, hdh]; rw [if_neg (by omega), if_neg (by omega), if_neg (by simp), if_neg hcond]; rfl
              have HV := Lib.hid Hv
              clear Hv hcond
              simp at hsz
              rcases Hor with rfl | ⟨rfl, rfl⟩
              · have i1 := I1.out
                have i2 := I2.out
                go_enter Tryd.func82, Tryd.ntmps82
                go_wp2_with (first
                  | (go_at_call 92; refine (D1.out _).mono ?_; rintro e w1 ⟨rfl, q1⟩)
                  | (go_at_call 71; refine (A1.out _).mono ?_; rintro e w2 ⟨rfl, q2⟩))
                go_ret3
                exact ⟨by rw [HV.out]; rfl, q1.trans q2⟩
              · have i1 := I1.out
                have i2 := I2.out
                have tok : True := trivial
                go_enter Tryd.func82, Tryd.ntmps82
                go_wp2_with (first
                  | (go_at_call 92; refine (D1.out _).mono ?_; rintro e w1 ⟨rfl, q1⟩)
                  | (go_at_call 71; have _t := tok; refine (A1.out _).mono ?_; rintro e w2 ⟨rfl, q2⟩; clear tok _t)
                  | (go_at_call 71; refine (B1.out _).mono ?_; rintro e w3 ⟨rfl, q3⟩))
                go_ret3
                exact ⟨by rw [HV.out]; rfl, (q1.trans q2).trans q3⟩
            | lo :: t, hl, hsz, hby =>
              have lo256 : lo < 256 := hby lo (by simp)
              have hge4 : ¬ s.size < 4 := by simp at hsz; omega
              have i3 := fun W => index_txt W 9 Tryd.underlying9 (s := s) (k := 3) (c := lo) (by rw [hl]; rfl) .i64 3 rfl
              have I3 := Lib.hid i3
              clear i3
              have hd' : digitN lo ≤ 16 := by unfold digitN; split <;> (try split) <;> omega
              have E1 := Lib.hid (fun W => digit_any lo lo256 W)
              obtain ⟨dl, hdl⟩ : ∃ dl, digitN lo = dl := ⟨_, rfl⟩
              rw [hdl] at hd' E1
              -- what is common to all: the calls up to the second digit
              by_cases h6 : 15 < dl
              · have Hv : escV (120 :: h :: lo :: t) = .tuple #[.int .u8 0, .int .i64 3, .bool false] := by simp only [escV, esc, hdh, hdl]; rw [if_neg (by omega), if_neg (by omega), if_neg (by simp), if_neg hcond, if_pos (Or.inl h6)]; rfl
                have HV := Lib.hid Hv
                clear Hv hcond
                have tok : True := trivial
                have tok2 : True := trivial
                rcases Hor with rfl | ⟨rfl, rfl⟩
                · have i1 := I1.out
                  have i2 := I2.out
                  have i3 := I3.out
                  go_enter Tryd.func82, Tryd.ntmps82
                  go_wp2_with (first
                    | (go_at_call 92; have _t := tok; refine (D1.out _).mono ?_; rintro e w1 ⟨rfl, q1⟩; clear tok _t)
                    | (go_at_call 92; refine (E1.out _).mono ?_; rintro e w4 ⟨rfl, q4⟩)
                    | (go_at_call 71; refine (A1.out _).mono ?_; rintro e w2 ⟨rfl, q2⟩))
                  go_ret3
                  exact ⟨by rw [HV.out]; rfl, (q1.trans q2).trans q4⟩
                · have i1 := I1.out
                  have i2 := I2.out
                  have i3 := I3.out
                  go_enter Tryd.func82, Tryd.ntmps82
                  go_wp2_with (first
                    | (go_at_call 92; have _t := tok; refine (D1.out _).mono ?_; rintro e w1 ⟨rfl, q1⟩; clear tok _t)
                    | (go_at_call 92; refine (E1.out _).mono ?_; rintro e w4 ⟨rfl, q4⟩)
                    | (go_at_call 71; have _t := tok2; refine (A1.out _).mono ?_; rintro e w2 ⟨rfl, q2⟩; clear tok2 _t)
                    | (go_at_call 71; refine (B1.out _).mono ?_; rintro e w3 ⟨rfl, q3⟩))
                  go_ret3
                  exact ⟨by rw [HV.out]; rfl, ((q1.trans q2).trans q3).trans q4⟩
              · obtain ⟨hf, hhf⟩ : ∃ hf, hiddenN (16 * dh + dl) = hf := ⟨_, rfl⟩
                have F1 := Lib.hid (fun W => hidden_at ((dh : Int) * 16 + (dl : Int)) (16 * dh + dl) hf (by omega) hhf W)
                have o2 : bits .or .u8 ((dh : Int) * 16) (dl : Int) = (dh : Int) * 16 + (dl : Int) := bits_or dh dl (by omega) (by omega)
                have dlt2 : decide (15 < (dl : Int)) = false := by simp; omega
                have Hv : escV (120 :: h :: lo :: t) = (if hf then .tuple #[.int .u8 ((dh : Int) * 16 + (dl : Int)), .int .i64 4, .bool true] else .tuple #[.int .u8 0, .int .i64 3, .bool false]) := by
                  simp only [escV, esc, hdh, hdl]
                  rw [if_neg (by omega), if_neg (by omega), if_neg (by simp), if_neg hcond, hhf]
                  cases hf
                  · rw [if_pos (Or.inr rfl)]; rfl
                  · rw [if_neg (by simp; omega)]
                    have : ((16 * dh + dl : Nat) : Int) = (dh : Int) * 16 + (dl : Int) := by omega
                    simp only [this]; rfl
                have HV := Lib.hid Hv
                clear Hv hcond hhf
                have tok : True := trivial
                have tok2 : True := trivial
                have tok3 : True := trivial
                cases hf
                all_goals rcases Hor with rfl | ⟨rfl, rfl⟩
                all_goals
                  have i1 := I1.out
                  have i2 := I2.out
                  have i3 := I3.out
                  go_enter Tryd.func82, Tryd.ntmps82
                  go_wp2_with (first
                    | (go_at_call 92; have _t := tok; refine (D1.out _).mono ?_; rintro e w1 ⟨rfl, q1⟩; clear tok _t)
                    | (go_at_call 92; refine (E1.out _).mono ?_; rintro e w4 ⟨rfl, q4⟩)
                    | (go_at_call 71; have _t := tok2; refine (A1.out _).mono ?_; rintro e w2 ⟨rfl, q2⟩; clear tok2 _t)
                    | (go_at_call 71; have _t := q4; refine (F1.out _).mono ?_; rintro e w5 ⟨rfl, q5⟩)
                    | (go_at_call 71; refine (B1.out _).mono ?_; rintro e w3 ⟨rfl, q3⟩))
                  go_ret3
                  first
                    | exact ⟨by rw [HV.out]; rfl, ((q1.trans q2).trans q4).trans q5⟩
                    | exact ⟨by rw [HV.out]; rfl, (((q1.trans q2).trans q3).trans q4).trans q5⟩
    · have hv : escV (d :: t) = .tuple #[.int .u8 0, .int .i64 1, .bool false] := by simp [escV, esc, h1, h2, h3, h4]
      have HV := Lib.hid hv
      clear hv
      have e4 : ((d : Int) == 120) = false := by simp; omega
      have i1 := I1.out
      go_enter Tryd.func82, Tryd.ntmps82
      go_wp2_with fail
      go_ret3
      exact ⟨by rw [HV.out]; rfl, Quiet.refl _⟩
end Go.Proofs.YtdkoafmgenbkbaaDoor
namespace Go.Proofs.YtdkoafmgenbkbaaDoor
set_option linter.unusedSimpArgs false
set_option linter.unusedVariables false
open Go.RowKit

def quoteN (l : List Nat) : List Nat := 34 :: l.flatMap formN ++ [34]

theorem info_byte : (Tryd.prog.info? 5).map (fun i => (i.zero, i.size, i.bytes)) = some (some (.int .u8 0), 1, 1) := by kernel_rfl
theorem formN_bytes (c : Nat) (hc : c < 256) : Bytes (formN c) := by
  intro n hn
  rcases form_cases c with ⟨_, h⟩ | ⟨_, h⟩ | ⟨_, h⟩ | ⟨_, _, _, _, h⟩ | ⟨_, h⟩ <;> rw [h] at hn <;> simp at hn
  · omega
  · omega
  · omega
  · omega
  · have h1 := hexN_lt (c / 16) (by omega)
    have h2 := hexN_lt (c % 16) (by omega)
    omega
theorem flat_len : ∀ (l : List Nat), (l.flatMap formN).length ≤ 4 * l.length
  | [] => by simp
  | c :: l => by
    have := flat_len l
    have := (form_len c).2
    simp only [List.flatMap_cons, List.length_append, List.length_cons]
    omega
theorem take_flat {l : List Nat} {k c : Nat} (h : l[k]? = some c) : 34 :: (l.take (k + 1)).flatMap formN = (34 :: (l.take k).flatMap formN) ++ formN c := by
  have hk := (List.getElem?_eq_some_iff.1 h).1
  rw [List.take_succ_eq_append_getElem hk, (List.getElem?_eq_some_iff.1 h).2, List.flatMap_append]
  simp
theorem quote_bytes {l : List Nat} (h : Bytes l) : Bytes (quoteN l) := by
  intro n hn
  simp only [quoteN, List.cons_append, List.mem_cons, List.mem_append, List.mem_flatMap, List.not_mem_nil, or_false] at hn
  rcases hn with rfl | ⟨c, hc, hn⟩ | rfl
  · omega
  · exact formN_bytes c (h c hc) n hn
  · omega
theorem bits_and (n : Nat) (hn : n < 256) : bits .and .u8 (n : Int) 15 = ((n % 16 : Nat) : Int) := by
  have : ∀ n : Fin 256, bits .and .u8 (n.1 : Int) 15 = ((n.1 % 16 : Nat) : Int) := by decide +kernel
  exact this ⟨n, hn⟩
theorem hidden_of (c : Nat) (b : Bool) (hb : hiddenN c = b) (w : World) : Calls Tryd.prog 71 #[.int .u8 (c : Int)] w fun e w' => e = .returned (.bool b) ∧ Quiet w w' := hb ▸ hidden_any c w

set_option maxHeartbeats 2000000 in
theorem quote_any (s : ByteArray) (hs : s.size ≤ 1048576) (w : World) : Calls Tryd.prog 45 #[.string s] w fun e w' => e = .returned (.string (txt (quoteN (bs s)))) ∧ Below w.heap.size w w' := by
  obtain ⟨j, hi, hz, hsz, hby⟩ := info_parts info_byte
  have I := Lib.hid (And.intro hi (And.intro hz (And.intro hsz hby)))
  clear hi hz hsz hby
  obtain ⟨n, hn⟩ : ∃ n, s.size = n := ⟨_, rfl⟩
  have Hn := Lib.hid hn
  rw [hn] at hs
  have hn' : (s.size : Int) = (n : Int) := by rw [hn]
  clear hn
  go_enter Tryd.func45, Tryd.ntmps45
  go_wp2_with fail
  go_loopw [3, 9] (fun o i wr => ∃ k : Nat, k ≤ n ∧ i = .int .i64 k ∧ Below w.heap.size w wr ∧ Hid (Own1 wr w.heap.size 5 1 IsByte o (34 :: ((bs s).take k).flatMap formN))) (fun _ i _ => n - (intOf i).toNat)
  case atStart =>
    exact ⟨0, Nat.zero_le _, rfl, (Below.refl _ w).alloc (Nat.le_refl _) _, own_bytes (xs := [.int .u8 34]) rfl (Nat.le_refl _) rfl (fun m hm => by simp at hm; omega) (by simp [maxLen]) 1 1 rfl rfl⟩
  case round =>
    obtain ⟨k, hk, rfl, hb, ho⟩ := hrel
    have b0 : (0 : Int) ≤ (k : Int) := Int.natCast_nonneg _
    by_cases hlt : k < n
    · have hlt' : k < s.size := by rw [Hn.out]; exact hlt
      obtain ⟨c, hc, c256⟩ := get_bs hlt'
      have i1 := fun W => index_txt W 9 Tryd.underlying9 hc .i64 _ rfl
      have hfl := flat_len ((bs s).take k)
      have htk := List.length_take_le k (bs s)
      have hlen : (34 :: ((bs s).take k).flatMap formN).length ≤ 1 + 4 * k := by rw [List.length_cons]; omega
      have Hlen := Lib.hid hlen
      have Htf := Lib.hid (take_flat hc)
      have hbz := hb.size
      clear hc hfl htk hlen
      by_cases c1 : c = 10
      · subst c1
        go_wp2_with (at_builtin
                     go_must (refine wpList_append_bytes rfl (.tmp 22) (.tmp 23) _ rfl w.heap.size (wr.heap.size + 1) 5 j Tryd.underlying69 I.out.1 I.out.2.1 I.out.2.2.1 I.out.2.2.2 (l := 34 :: ((bs s).take k).flatMap formN) (m := [92, 110]) u3 rfl (by exact ho.out.alloc _) (some ⟨wr.heap.size, 0, none⟩) 2 2 rfl (by exact bytes_row (xs := [.int .u8 92, .int .u8 110]) rfl rfl (fun m hm => by simp at hm; omega) (by simp [maxLen]) 2 2 rfl rfl) (by have := Hlen.out; omega) (by rw [World.size_alloc]; omega) ?_)
                     intro xa xn xc w4 hown hb4)
        go_roundw
        case rel => exact ⟨k + 1, by omega, by go_num, (hb.alloc (by omega) _).trans hb4, by rw [Htf.out]; exact hown⟩
        case measure => simp [intOf]; omega
      have e1 : ((c : Int) == 10) = false := by simp; omega
      by_cases c2 : hiddenN c = true
      · have Hh := Lib.hid (fun W => hidden_of c true c2 W)
        have hf := form_hidden c2
        rw [hf] at Htf
        clear hf c2
        have s1 : bits .and .u8 (c : Int) 15 = ((c % 16 : Nat) : Int) := bits_and c c256
        have i2 := fun W => index_hex W 9 Tryd.underlying9 (c / 16) (by omega) .u8 ((c : Int) / 16) (by omega)
        have i3 := fun W => index_hex W 9 Tryd.underlying9 (c % 16) (by omega) .u8 ((c : Int) % 16) (by omega)
        have x1 := hexN_lt (c / 16) (by omega)
        have x2 := hexN_lt (c % 16) (by omega)
        generalize hexN (c / 16) = q1 at *
        generalize hexN (c % 16) = q2 at *
        go_wp2_with (go_at_call 71; refine (Hh.out _).mono ?_; rintro e w1 ⟨rfl, qq⟩)
        have ho1 : Hid (Own1 w1 w.heap.size 5 1 IsByte u3 (34 :: ((bs s).take k).flatMap formN)) := by
          obtain ⟨q, rfl⟩ := qq
          exact ho.out.drewN q
        have hb1 : Below w.heap.size w w1 := by
          obtain ⟨q, rfl⟩ := qq
          exact below_drewN hb q
        have hz1 := hb1.size
        clear qq ho hb
        go_region_held3 (fun _ => True)
          (trivial)
          (first
            | (go_must (refine step_append_bytes rfl (.tmp 28) (.tmp 35) _ rfl w.heap.size (w1.heap.size + 1) 5 j Tryd.underlying69 I.out.1 I.out.2.1 I.out.2.2.1 I.out.2.2.2 (l := 34 :: ((bs s).take k).flatMap formN) (m := [92, 120, q1, q2]) u3 rfl (by exact (ho1.out.alloc _).drew) (some ⟨w1.heap.size, 0, none⟩) 4 4 rfl (by exact bytes_row (xs := [.int .u8 92, .int .u8 120, .int .u8 (q1 : Int), .int .u8 (q2 : Int)]) rfl rfl (fun m hm => by simp at hm; omega) (by simp [maxLen]) 4 4 rfl rfl) (by have := Hlen.out; omega) (by show _ ≤ (w1.alloc _).heap.size; rw [World.size_alloc]; omega) ?_)
               intro xa xn xc w4 hown hb4
               have hbb : Below w.heap.size w w4 := (hb1.alloc (by omega) _).drew.trans hb4
               clear hb4))
        all_goals
          go_wp2_with fail
          go_roundw
          case rel => exact ⟨k + 1, by omega, by go_num, hbb, by rw [Htf.out]; exact hown⟩
          case measure => simp [intOf]; omega
      have Hh := Lib.hid (fun W => hidden_of c false (by simpa using c2) W)
      simp only [hiddenN, decide_eq_true_eq] at c2
      by_cases c3 : c = 34 ∨ c = 92
      · have Hf : formN c = [92, c] := by rcases c3 with rfl | rfl <;> rfl
        rw [Hf] at Htf
        clear Hf c2
        rcases c3 with rfl | rfl
        all_goals
          go_wp2_with (first
            | (go_at_call 71; refine (Hh.out _).mono ?_; rintro e w1 ⟨rfl, qq⟩
               have ho1 : Hid (Own1 w1 w.heap.size 5 1 IsByte u3 (34 :: ((bs s).take k).flatMap formN)) := by
                 obtain ⟨q, rfl⟩ := qq
                 exact ho.out.drewN q
               have hb1 : Below w.heap.size w w1 := by
                 obtain ⟨q, rfl⟩ := qq
                 exact below_drewN hb q
               have hz1 := hb1.size
               clear qq ho hb)
            | (at_builtin
               go_must (refine wpList_append_bytes rfl (.tmp 44) (.tmp 46) _ rfl w.heap.size (w1.heap.size + 1) 5 j Tryd.underlying69 I.out.1 I.out.2.1 I.out.2.2.1 I.out.2.2.2 (l := 34 :: ((bs s).take k).flatMap formN) (m := [92, _]) u3 rfl (by exact ho1.out.alloc _) (some ⟨w1.heap.size, 0, none⟩) 2 2 rfl (by exact bytes_row (xs := [.int .u8 92, .int .u8 _]) rfl rfl (fun m hm => by simp at hm; omega) (by simp [maxLen]) 2 2 rfl rfl) (by have := Hlen.out; omega) (by rw [World.size_alloc]; omega) ?_)
               intro xa xn xc w4 hown hb4
               have hbb : Below w.heap.size w w4 := (hb1.alloc (by omega) _).trans hb4))
          go_roundw
          case rel => exact ⟨k + 1, by omega, by go_num, hbb, by rw [Htf.out]; exact hown⟩
          case measure => simp [intOf]; omega
      · have e2 : ((c : Int) == 34) = false := by simp; omega
        have e3 : ((c : Int) == 92) = false := by simp; omega
        have Hf : formN c = [c] := form_plain (by omega) (by omega) (by omega) (by omega)
        rw [Hf] at Htf
        clear Hf c2 c3
        go_wp2_with (first
            | (go_at_call 71; refine (Hh.out _).mono ?_; rintro e w1 ⟨rfl, qq⟩
               have ho1 : Hid (Own1 w1 w.heap.size 5 1 IsByte u3 (34 :: ((bs s).take k).flatMap formN)) := by
                 obtain ⟨q, rfl⟩ := qq
                 exact ho.out.drewN q
               have hb1 : Below w.heap.size w w1 := by
                 obtain ⟨q, rfl⟩ := qq
                 exact below_drewN hb q
               have hz1 := hb1.size
               clear qq ho hb)
            | (at_builtin
               go_must (refine wpList_append_bytes rfl (.tmp 15) (.tmp 17) _ rfl w.heap.size (w1.heap.size + 1) 5 j Tryd.underlying69 I.out.1 I.out.2.1 I.out.2.2.1 I.out.2.2.2 (l := 34 :: ((bs s).take k).flatMap formN) (m := [c]) u3 rfl (by exact ho1.out.alloc _) (some ⟨w1.heap.size, 0, none⟩) 1 1 rfl (by exact bytes_row (xs := [.int .u8 (c : Int)]) rfl rfl (fun m hm => by simp at hm; omega) (by simp [maxLen]) 1 1 rfl rfl) (by have := Hlen.out; omega) (by rw [World.size_alloc]; omega) ?_)
               intro xa xn xc w4 hown hb4
               have hbb : Below w.heap.size w w4 := (hb1.alloc (by omega) _).trans hb4))
        go_roundw
        case rel => exact ⟨k + 1, by omega, by go_num, hbb, by rw [Htf.out]; exact hown⟩
        case measure => simp [intOf]; omega
    · have hge : n ≤ k := by omega
      have hdec : decide (k < n) = false := by simp; omega
      clear hlt
      have hall : (bs s).take k = bs s := List.take_of_length_le (by rw [bs_len, Hn.out]; exact hge)
      rw [hall] at ho
      have hlen := flat_len (bs s)
      rw [bs_len, Hn.out] at hlen
      have Hlen := Lib.hid hlen
      have hbz := hb.size
      clear hall hlen
      go_wp2_with (at_builtin
                   go_must (refine wpList_append_bytes rfl (.tmp 49) (.tmp 50) _ rfl w.heap.size (wr.heap.size + 1) 5 j Tryd.underlying69 I.out.1 I.out.2.1 I.out.2.2.1 I.out.2.2.2 (l := 34 :: (bs s).flatMap formN) (m := [34]) u3 rfl (by exact ho.out.alloc _) (some ⟨wr.heap.size, 0, none⟩) 1 1 rfl (by exact bytes_row (xs := [.int .u8 34]) rfl rfl (fun m hm => by simp at hm; omega) (by simp [maxLen]) 1 1 rfl rfl) (by have := Hlen.out; rw [List.length_cons]; omega) (by rw [World.size_alloc]; omega) ?_)
                   intro xa xn xc w4 hown hb4
                   have hbb : Below w.heap.size w w4 := (hb.alloc (by omega) _).trans hb4
                   have hc := run_text_of_row 69 9 5 Tryd.underlying69 Tryd.underlying5 Tryd.underlying9 hown
                   clear hown hb4)
      go_ret
      exact ⟨rfl, hbb⟩
end Go.Proofs.YtdkoafmgenbkbaaDoor
namespace Go.Proofs.YtdkoafmgenbkbaaDoor
set_option linter.unusedSimpArgs false
set_option linter.unusedVariables false
open Go.RowKit

theorem one_some {r : List Nat} (hr : Bytes r) (h34 : r.head? ≠ some 34) {c n m : Nat} (h : one r = (some (c, n), m)) : c < 256 ∧ n = (formN c).length ∧ ∃ t, r = formN c ++ t := by
  match r, h34, h, hr with
  | [], _, h, _ => simp [one] at h
  | b :: t, h34, h, hr =>
    have b256 : b < 256 := hr b (by simp)
    by_cases hb : b = 92
    · subst hb
      simp only [one, if_pos] at h
      match t, h, hr with
      | [], h, _ => simp [esc] at h
      | d :: t, h, hr =>
        by_cases h1 : d = 34
        · subst h1; simp [esc] at h; obtain ⟨⟨rfl, rfl⟩, _⟩ := h; exact ⟨by omega, rfl, t, rfl⟩
        by_cases h2 : d = 92
        · subst h2; simp [esc] at h; obtain ⟨⟨rfl, rfl⟩, _⟩ := h; exact ⟨by omega, rfl, t, rfl⟩
        by_cases h3 : d = 110
        · subst h3; simp [esc] at h; obtain ⟨⟨rfl, rfl⟩, _⟩ := h; exact ⟨by omega, rfl, t, rfl⟩
        by_cases h4 : d = 120
        · subst h4
          match t, h, hr with
          | [], h, _ => simp [esc] at h
          | x :: t, h, hr =>
            by_cases hg : 15 < digitN x ∨ (hiddenN (16 * digitN x) = false ∧ hiddenN (16 * digitN x + 15) = false)
            · simp [esc, hg] at h
            · match t, h, hr with
              | [], h, _ => simp [esc, hg] at h
              | y :: t, h, hr =>
                by_cases hl : 15 < digitN y ∨ hiddenN (16 * digitN x + digitN y) = false
                · simp [esc, hg, hl] at h
                · simp [esc, hg, hl] at h
                  obtain ⟨⟨rfl, rfl⟩, _⟩ := h
                  have d1 : digitN x ≤ 15 := by omega
                  have d2 : digitN y ≤ 15 := by omega
                  have hh : hiddenN (16 * digitN x + digitN y) = true := by
                    rcases hb : hiddenN (16 * digitN x + digitN y) with _ | _
                    · exact absurd (Or.inr hb) hl
                    · rfl
                  have q1 : (16 * digitN x + digitN y) / 16 = digitN x := by omega
                  have q2 : (16 * digitN x + digitN y) % 16 = digitN y := by omega
                  rw [form_hidden hh, q1, q2, hex_of_digit x d1, hex_of_digit y d2]
                  exact ⟨by omega, rfl, t, rfl⟩
        · simp [esc, h1, h2, h3, h4] at h
    · by_cases hp : b < 32 ∨ 126 < b
      · simp [one, hb, hp] at h
      · simp [one, hb, hp] at h
        obtain ⟨⟨rfl, rfl⟩, _⟩ := h
        have h34' : b ≠ 34 := by simpa using h34
        rw [form_plain (by omega) (by omega) h34' hb]
        exact ⟨b256, rfl, t, rfl⟩
theorem esc_some {l : List Nat} (hl : Bytes l) {c n m : Nat} (h : esc l = (some (c, n), m)) : c < 256 ∧ 2 ≤ n ∧ n ≤ l.length + 1 := by
  have h1 : one (92 :: l) = (some (c, n), m) := by simp [one, h]
  obtain ⟨c1, c2, t, c3⟩ := one_some (fun k hk => by rcases List.mem_cons.1 hk with rfl | hk; omega; exact hl k hk) (by simp) h1
  have e := congrArg List.length c3
  simp at e
  have : formN c ≠ [92] := by
    rcases form_cases c with ⟨_, h⟩ | ⟨_, h⟩ | ⟨_, h⟩ | ⟨_, _, _, h4, h⟩ | ⟨_, h⟩ <;> rw [h] <;> simp [*]
  have hl1 : (formN c).length ≠ 1 := by
    intro hl1
    match hf : formN c, hl1, c3 with
    | [z], _, c3 =>
      injection c3 with c4 _
      exact this (by rw [hf, ← c4])
  have := form_len c
  omega
theorem esc_none {l : List Nat} {n : Nat} (h : esc l = (none, n)) : 1 ≤ n ∧ n ≤ l.length + 1 := by
  match l, h with
  | [], h => simp [esc] at h; subst h; simp
  | d :: t, h =>
    simp only [esc] at h
    split at h
    · simp at h
    · split at h
      · simp at h
      · split at h
        · simp at h; subst h; simp
        · match t, h with
          | [], h => simp at h; subst h; simp
          | x :: t, h =>
            simp only at h
            split at h
            · simp at h; subst h; simp
            · match t, h with
              | [], h => simp at h; subst h; simp
              | y :: t, h =>
                simp only at h
                split at h
                · simp at h; subst h; simp
                · simp at h

/-- what is read from place i on -/
def unq (l : List Nat) : Nat → Nat → List Nat → List Nat × Nat × Nat
  | 0, i, _ => ([], i, 10)
  | f + 1, i, out => if l[i]? = some 34 then (out, i + 1, 0) else
    match one (l.drop i) with
    | (some (c, n), _) => unq l f (i + n) (out ++ [c])
    | (none, far) => ([], i + far, 10)
def unquoteN (l : List Nat) (a : Int) : List Nat × Int × Nat :=
  if a < 0 ∨ (l.length : Int) < a then ([], 0, 2) else if l[a.toNat]? ≠ some 34 then ([], a, 10) else
    ((unq l (l.length + 1) (a.toNat + 1) []).1, ((unq l (l.length + 1) (a.toNat + 1) []).2.1 : Int), (unq l (l.length + 1) (a.toNat + 1) []).2.2)
def unqV (r : List Nat × Int × Nat) : Value := .tuple #[.string (txt r.1), .int .i64 r.2.1, .int .i64 (r.2.2 : Int)]

theorem unq_end {l : List Nat} {f i : Nat} {o : List Nat} {R : List Nat × Nat × Nat} (h : unq l f i o = R) (hf : 1 ≤ f) (hi : l[i]? = some 34) : R = (o, i + 1, 0) := by
  obtain ⟨f, rfl⟩ : ∃ g, f = g + 1 := ⟨f - 1, by omega⟩
  rw [← h, unq, if_pos hi]
theorem unq_stop {l : List Nat} {f i far : Nat} {o : List Nat} {R : List Nat × Nat × Nat} (h : unq l f i o = R) (hf : 1 ≤ f) (hi : l[i]? ≠ some 34) (ho : one (l.drop i) = (none, far)) : R = ([], i + far, 10) := by
  obtain ⟨f, rfl⟩ : ∃ g, f = g + 1 := ⟨f - 1, by omega⟩
  rw [← h, unq, if_neg hi, ho]
theorem unq_step {l : List Nat} {f i c n m : Nat} {o : List Nat} {R : List Nat × Nat × Nat} (h : unq l f i o = R) (hf : 1 ≤ f) (hi : l[i]? ≠ some 34) (ho : one (l.drop i) = (some (c, n), m)) : unq l (f - 1) (i + n) (o ++ [c]) = R := by
  obtain ⟨f, rfl⟩ : ∃ g, f = g + 1 := ⟨f - 1, by omega⟩
  rw [← h, unq, if_neg hi, ho]
  rfl

set_option maxHeartbeats 4000000 in
theorem unquote_any (s : ByteArray) (a : Int) (ha : (Lit.int .i64 a).wf = true) (hs : s.size ≤ 1048576) (w : World) : Calls Tryd.prog 63 #[.string s, .int .i64 a] w fun e w' => e = .returned (unqV (unquoteN (bs s) a)) ∧ Below w.heap.size w w' := by
  obtain ⟨j, hi, hz, hsz, hby⟩ := info_parts info_byte
  have I := Lib.hid (And.intro hi (And.intro hz (And.intro hsz hby)))
  clear hi hz hsz hby
  obtain ⟨n, hn⟩ : ∃ n, s.size = n := ⟨_, rfl⟩
  have Hn := Lib.hid hn
  have hln : (bs s).length = n := by rw [bs_len, hn]
  have Hln := Lib.hid hln
  rw [hn] at hs
  have hn' : (s.size : Int) = (n : Int) := by rw [hn]
  clear hn
  by_cases h1 : a < 0
  · have hv : unquoteN (bs s) a = ([], 0, 2) := by simp [unquoteN, h1]
    have HV := Lib.hid hv
    clear hv hln
    go_enter Tryd.func63, Tryd.ntmps63
    go_wp2_with fail
    go_step3
    go_wp2_with fail
    rw [Exit.noGoto_ret]
    go_ret3
    exact ⟨by rw [HV.out]; rfl, Below.refl _ _⟩
  have d1 : decide (a < 0) = false := by simpa using h1
  by_cases h2 : (n : Int) < a
  · have hv : unquoteN (bs s) a = ([], 0, 2) := by simp [unquoteN, hln, h2]
    have HV := Lib.hid hv
    clear hv hln
    go_enter Tryd.func63, Tryd.ntmps63
    go_wp2_with fail
    go_step3
    go_wp2_with fail
    rw [Exit.noGoto_ret]
    go_ret3
    exact ⟨by rw [HV.out]; rfl, Below.refl _ _⟩
  have d2 : decide ((n : Int) < a) = false := by simpa using h2
  obtain ⟨k0, rfl⟩ : ∃ k : Nat, a = (k : Int) := ⟨a.toNat, by omega⟩
  have hgate : unquoteN (bs s) k0 = if (bs s)[k0]? ≠ some 34 then ([], (k0 : Int), 10) else ((unq (bs s) (n + 1) (k0 + 1) []).1, ((unq (bs s) (n + 1) (k0 + 1) []).2.1 : Int), (unq (bs s) (n + 1) (k0 + 1) []).2.2) := by
    unfold unquoteN
    rw [if_neg (by rw [hln]; omega), hln]
    rfl
  have d2' : decide (n < k0) = false := by simp; omega
  by_cases h3 : k0 = n
  · subst h3
    have hv : unquoteN (bs s) k0 = ([], (k0 : Int), 10) := by
      rw [hgate, if_pos (by rw [List.getElem?_eq_none (by omega)]; simp)]
    have HV := Lib.hid hv
    clear hv hln hgate
    go_enter Tryd.func63, Tryd.ntmps63
    go_wp2_with fail
    go_step3
    go_wp2_with fail
    rw [Exit.noGoto_ret]
    go_ret3
    exact ⟨by rw [HV.out]; rfl, Below.refl _ _⟩
  have d3 : ((k0 : Int) == (n : Int)) = false := by simp; omega
  have hk0 : k0 < s.size := by omega
  have b0 : (0 : Int) ≤ (k0 : Int) := Int.natCast_nonneg _
  obtain ⟨c0, hc0, c0256⟩ := get_bs hk0
  have i0 := fun W => index_txt W 9 Tryd.underlying9 hc0 .i64 _ rfl
  by_cases h4 : c0 = 34
  · subst h4
    rw [hc0, if_neg (by simp)] at hgate
    have HG := Lib.hid hgate
    have hR : unq (bs s) (n + 1) (k0 + 1) [] = unq (bs s) (n + 1) (k0 + 1) [] := rfl
    generalize hRR : unq (bs s) (n + 1) (k0 + 1) [] = R at HG hR
    clear hR
    have HR := Lib.hid hRR
    have I0 := Lib.hid i0
    clear hgate hc0 hRR hln i0
    have i0 := I0.out
    go_enter Tryd.func63, Tryd.ntmps63
    go_wp2_with fail
    go_step3
    go_wp2_with fail
    go_step3
    go_wp2_with fail
    go_loopw [7, 8] (fun o i wr => ∃ (k f : Nat) (out : List Nat), k ≤ n ∧ n < f + k ∧ i = .int .i64 k ∧ Hid (unq (bs s) f k out = R) ∧ Below w.heap.size w wr ∧ Hid (Own1 wr w.heap.size 5 1 IsByte o out ∧ out.length ≤ k)) (fun _ i _ => n - (intOf i).toNat)
    case atStart => exact ⟨k0 + 1, n + 1, [], by omega, by omega, by go_num, HR.out, Below.refl _ _, ⟨[], World.ownsRow_nil _ _ _ _, FlatR.nil_⟩, by simp⟩
    case round =>
      obtain ⟨k, f, out, hk, hf, rfl, hu, hb, ho⟩ := hrel
      clear i0 I0
      have b1 : (0 : Int) ≤ (k : Int) := Int.natCast_nonneg _
      by_cases hlt : k < n
      · have hlt' : k < s.size := by omega
        obtain ⟨c, hc, c256⟩ := get_bs hlt'
        have i1 := fun W => index_txt W 9 Tryd.underlying9 hc .i64 _ rfl
        have hdrop := drop_bs hc
        have hbz := hb.size
        by_cases c1 : c = 34
        · subst c1
          have hv := unq_end hu.out (by omega) hc
          have HV := Lib.hid hv
          have hcv := run_text_of_row 69 9 5 Tryd.underlying69 Tryd.underlying5 Tryd.underlying9 ho.out.1
          clear hv hc hdrop
          go_wp2_with fail
          (try simp only [Exit.inBlock, Exit.then, Exit.noGoto_ret])
          go_ret3
          exact ⟨by rw [HG.out, HV.out]; rfl, hb⟩
        have e1 : ((c : Int) == 34) = false := by simp; omega
        have hne : (bs s)[k]? ≠ some 34 := by rw [hc]; simpa using c1
        by_cases c2 : c = 92
        · subst c2
          have hone : one ((bs s).drop k) = esc ((bs s).drop (k + 1)) := by rw [hdrop]; rfl
          have hx : bs (s.extract k s.size) = 92 :: (bs s).drop (k + 1) := by
            rw [bs_extract, ← hdrop, List.take_of_length_le (by rw [bs_len]; exact Nat.le_refl _)]
          have hxs : (s.extract k s.size).size ≤ maxLen := by
            rw [← bs_len, hx, List.length_cons, List.length_drop, Hln.out]; unfold maxLen; omega
          have hby : Bytes ((bs s).drop (k + 1)) := fun m hm => bs_bytes s m (List.mem_of_mem_drop hm)
          have hdl : ((bs s).drop (k + 1)).length = n - (k + 1) := by rw [List.length_drop, Hln.out]
          have E : Hid (∀ W, Calls Tryd.prog 82 #[.string (s.extract k s.size)] W fun e w' => e = .returned (escV ((bs s).drop (k + 1))) ∧ Quiet W w') := Lib.hid (fun W => escape_any (s.extract k s.size) 92 ((bs s).drop (k + 1)) hx hxs W)
          have tok : True := trivial
          rcases hE : esc ((bs s).drop (k + 1)) with ⟨_ | ⟨c', n'⟩, m'⟩
          · have hm := esc_none hE
            rw [hdl] at hm
            have hv := unq_stop hu.out (by omega) hne (hone.trans hE)
            have HV := Lib.hid hv
            have he : escV ((bs s).drop (k + 1)) = .tuple #[.int .u8 0, .int .i64 (m' : Int), .bool false] := by simp [escV, hE]
            rw [he] at E
            clear hv hc hdrop hone hx hxs hby hdl hne hE he
            go_wp2_with (first
              | (go_at_call 82; have _t := tok; refine (E.out _).mono ?_; rintro e w1 ⟨rfl, qq⟩; clear tok _t)
              | (go_at_call 82; trace_state; fail))
            (try simp only [Exit.inBlock, Exit.then, Exit.noGoto_ret])
            go_ret3
            exact ⟨by rw [HG.out, HV.out]; simp [unqV, txt], by obtain ⟨q, rfl⟩ := qq; exact below_drewN hb q⟩
          · have hm := esc_some hby hE
            rw [hdl] at hm
            have hv := unq_step hu.out (by omega) hne (hone.trans hE)
            have HV := Lib.hid hv
            have he : escV ((bs s).drop (k + 1)) = .tuple #[.int .u8 (c' : Int), .int .i64 (n' : Int), .bool true] := by simp [escV, hE]
            rw [he] at E
            clear hv hc hdrop hone hx hxs hby hdl hne hE he
            obtain ⟨hol, hok⟩ := ho.out
            have Ho := Lib.hid hol
            clear ho hol
            go_wp2_with (first
              | (go_at_call 82; have _t := tok; refine (E.out _).mono ?_; rintro e w1 ⟨rfl, qq⟩
                 have ho1 : Hid (Own1 w1 w.heap.size 5 1 IsByte u7 out) := by
                   obtain ⟨q, rfl⟩ := qq
                   exact Ho.out.drewN q
                 have hb1 : Below w.heap.size w w1 := by
                   obtain ⟨q, rfl⟩ := qq
                   exact below_drewN hb q
                 have hz1 := hb1.size
                 clear tok _t qq Ho hb)
              | (at_builtin
                 go_must (refine wpList_append_bytes rfl (.tmp 70) (.tmp 72) _ rfl w.heap.size (w1.heap.size + 1) 5 j Tryd.underlying69 I.out.1 I.out.2.1 I.out.2.2.1 I.out.2.2.2 (l := out) (m := [c']) u7 rfl (by exact ho1.out.alloc _) (some ⟨w1.heap.size, 0, none⟩) 1 1 rfl (by exact bytes_row (xs := [.int .u8 (c' : Int)]) rfl rfl (fun m hm => by simp at hm; omega) (by simp [maxLen]) 1 1 rfl rfl) (by omega) (by rw [World.size_alloc]; omega) ?_)
                 intro xa xn xc w4 hown hb4
                 have hbb : Below w.heap.size w w4 := (hb1.alloc (by omega) _).trans hb4))
            go_roundw
            case rel => exact ⟨k + n', f - 1, out ++ [c'], by omega, by omega, by go_num, HV.out, hbb, hown, by simp; omega⟩
            case measure => simp [intOf]; omega
        have e2 : ((c : Int) == 92) = false := by simp; omega
        by_cases c3 : c < 32 ∨ 126 < c
        · have hone : one ((bs s).drop k) = (none, 0) := by rw [hdrop]; simp [one, c2, c3]
          have hv := unq_stop hu.out (by omega) hne hone
          have HV := Lib.hid hv
          clear hv hc hdrop hone hne
          have c3' : c < 32 ∨ (¬ c < 32 ∧ 126 < c) := by omega
          clear c3
          rcases c3' with c3 | ⟨c3, c4⟩
          all_goals
            go_wp2_with fail
            (try simp only [Exit.inBlock, Exit.then, Exit.noGoto_ret])
            go_ret3
            exact ⟨by rw [HG.out, HV.out]; simp [unqV, txt], hb⟩
        · have hone : one ((bs s).drop k) = (some (c, 1), 1) := by rw [hdrop]; simp [one, c2, c3]
          have hv := unq_step hu.out (by omega) hne hone
          have HV := Lib.hid hv
          have c4 : ¬ c < 32 := by omega
          have c5 : ¬ 126 < c := by omega
          clear hv hc hdrop hone hne c3
          obtain ⟨hol, hok⟩ := ho.out
          have Ho := Lib.hid hol
          clear ho hol
          go_wp2_with (at_builtin
                       go_must (refine wpList_append_bytes rfl (.tmp 41) (.tmp 43) _ rfl w.heap.size (wr.heap.size + 1) 5 j Tryd.underlying69 I.out.1 I.out.2.1 I.out.2.2.1 I.out.2.2.2 (l := out) (m := [c]) u7 rfl (by exact Ho.out.alloc _) (some ⟨wr.heap.size, 0, none⟩) 1 1 rfl (by exact bytes_row (xs := [.int .u8 (c : Int)]) rfl rfl (fun m hm => by simp at hm; omega) (by simp [maxLen]) 1 1 rfl rfl) (by omega) (by rw [World.size_alloc]; omega) ?_)
                       intro xa xn xc w4 hown hb4
                       have hbb : Below w.heap.size w w4 := (hb.alloc (by omega) _).trans hb4)
          go_roundw
          case rel => exact ⟨k + 1, f - 1, out ++ [c], by omega, by omega, by go_num, HV.out, hbb, hown, by simp; omega⟩
          case measure => simp [intOf]; omega
      · have hv := unq_stop hu.out (far := 0) (by omega) (by rw [List.getElem?_eq_none (by rw [Hln.out]; omega)]; simp) (by rw [List.drop_of_length_le (by rw [Hln.out]; omega)]; rfl)
        have HV := Lib.hid hv
        clear hv
        have hdec : decide (k < n) = false := by simp; omega
        go_wp2_with fail
        (try simp only [Exit.inBlock, Exit.then, Exit.noGoto_ret])
        go_ret3
        exact ⟨by rw [HG.out, HV.out]; simp [unqV, txt], hb⟩
  · have d4 : ((c0 : Int) != 34) = true := by simp; omega
    have hv : unquoteN (bs s) k0 = ([], (k0 : Int), 10) := by rw [hgate, if_pos (by rw [hc0]; simpa using h4)]
    have HV := Lib.hid hv
    clear hv hln hgate hc0
    go_enter Tryd.func63, Tryd.ntmps63
    go_wp2_with fail
    go_step3
    go_wp2_with fail
    rw [Exit.noGoto_ret]
    go_ret3
    exact ⟨by rw [HV.out]; rfl, Below.refl _ _⟩
end Go.Proofs.YtdkoafmgenbkbaaDoor
namespace Go.Proofs.YtdkoafmgenbkbaaDoor
set_option linter.unusedSimpArgs false
set_option linter.unusedVariables false

theorem quoteP_len (l : List Nat) : (quoteN l).length = (l.flatMap formN).length + 2 := by simp [quoteN]
theorem flatP_ge : ∀ (l : List Nat), l.length ≤ (l.flatMap formN).length
  | [] => by simp
  | c :: l => by
    have := flatP_ge l
    have h1 := (form_len c).1
    simp only [List.flatMap_cons, List.length_append, List.length_cons]
    omega
theorem form_head (c : Nat) : (formN c).head? ≠ some 34 := by
  rcases form_cases c with ⟨_, h⟩ | ⟨_, h⟩ | ⟨_, h⟩ | ⟨_, _, h3, _, h⟩ | ⟨_, h⟩ <;> rw [h] <;> simp [*]
theorem unq_quote : ∀ (m : List Nat) (l : List Nat) (i f : Nat) (out rest : List Nat), Bytes m → l.drop i = m.flatMap formN ++ 34 :: rest → m.length < f → unq l f i out = (out ++ m, i + (m.flatMap formN).length + 1, 0)
  | [], l, i, f, out, rest, _, hd, hf => by
    obtain ⟨f, rfl⟩ : ∃ g, f = g + 1 := ⟨f - 1, by simp at hf; omega⟩
    have hi : l[i]? = some 34 := by rw [← List.head?_drop, hd]; rfl
    rw [unq, if_pos hi]
    simp
  | c :: m, l, i, f, out, rest, hb, hd, hf => by
    obtain ⟨f, rfl⟩ : ∃ g, f = g + 1 := ⟨f - 1, by simp at hf; omega⟩
    have hc : c < 256 := hb c (by simp)
    have hl := form_len c
    have hd' : l.drop i = formN c ++ (m.flatMap formN ++ 34 :: rest) := by rw [hd, List.flatMap_cons, List.append_assoc]
    have hi : l[i]? ≠ some 34 := by
      rw [← List.head?_drop, hd', List.head?_append]
      have := form_head c
      cases h : (formN c).head? with
      | none => rw [List.head?_eq_none_iff] at h; rw [h] at hl; simp at hl
      | some a => rw [h] at this; simpa using this
    have ho := one_of_form hc (m.flatMap formN ++ 34 :: rest)
    rw [← hd'] at ho
    rw [unq, if_neg hi, ho]
    have hn : l.drop (i + (formN c).length) = m.flatMap formN ++ 34 :: rest := by
      rw [← List.drop_drop, hd', List.drop_left]
    have ih := unq_quote m l (i + (formN c).length) f (out ++ [c]) rest (fun x hx => hb x (by simp [hx])) hn (by simp at hf; omega)
    simp only
    rw [ih]
    simp only [List.append_assoc, List.singleton_append, List.flatMap_cons, List.length_append]
    congr 2
    omega
theorem unq_ok : ∀ (f : Nat) (l : List Nat) (i : Nat) (out y : List Nat) (k : Nat), Bytes l → Bytes out → i ≤ l.length → l.take i = 34 :: out.flatMap formN → unq l f i out = (y, k, 0) → l.take k = quoteN y ∧ k ≤ l.length ∧ Bytes y
  | 0, l, i, out, y, k, _, _, _, _, h => by simp [unq] at h
  | f + 1, l, i, out, y, k, hb, ho, hi, ht, h => by
    rw [unq] at h
    by_cases h34 : l[i]? = some 34
    · rw [if_pos h34] at h
      simp only [Prod.mk.injEq] at h
      obtain ⟨rfl, rfl, _⟩ := h
      have hlt := (List.getElem?_eq_some_iff.1 h34).1
      refine ⟨?_, by omega, ho⟩
      rw [List.take_succ_eq_append_getElem hlt, (List.getElem?_eq_some_iff.1 h34).2, ht]
      rfl
    · rw [if_neg h34] at h
      rcases hone : one (l.drop i) with ⟨_ | ⟨c, n⟩, m⟩
      · rw [hone] at h
        simp at h
      · rw [hone] at h
        simp only at h
        obtain ⟨hc, hn, t, hd⟩ := one_some (fun x hx => hb x (List.mem_of_mem_drop hx)) (by rw [List.head?_drop]; exact h34) hone
        have hlen := congrArg List.length hd
        rw [List.length_drop, List.length_append] at hlen
        refine unq_ok f l (i + n) (out ++ [c]) y k hb (bytes_app ho (fun x hx => by simp at hx; omega)) (by omega) ?_ h
        rw [List.take_add, hd, ht, hn, List.take_left]
        simp
theorem unquote_ok {l : List Nat} {y : List Nat} {k : Int} (hb : Bytes l) (h : unquoteN l 0 = (y, k, 0)) : ∃ k' : Nat, k = (k' : Int) ∧ 2 ≤ k' ∧ k' ≤ l.length ∧ l.take k' = quoteN y ∧ Bytes y := by
  unfold unquoteN at h
  rw [if_neg (by omega)] at h
  by_cases h34 : l[(0 : Int).toNat]? ≠ some 34
  · rw [if_pos h34] at h
    simp at h
  · rw [if_neg h34] at h
    have h0 : l[0]? = some 34 := by
      by_cases e : l[0]? = some 34
      · exact e
      · exact absurd e h34
    simp only [Prod.mk.injEq] at h
    obtain ⟨e1, e2, e3⟩ := h
    have hlt := (List.getElem?_eq_some_iff.1 h0).1
    have ht : l.take 1 = 34 :: ([] : List Nat).flatMap formN := by
      rw [show (1 : Nat) = 0 + 1 from rfl, List.take_succ_eq_append_getElem hlt, (List.getElem?_eq_some_iff.1 h0).2]
      rfl
    rcases hu : unq l (l.length + 1) ((0 : Int).toNat + 1) [] with ⟨a, b, c⟩
    rw [hu] at e1 e2 e3
    simp only at e1 e2 e3
    subst e1 e3
    obtain ⟨g1, g2, g3⟩ := unq_ok _ l 1 [] _ b hb bytes_nil (by omega) ht hu
    have hl := congrArg List.length g1
    rw [List.length_take, quoteP_len] at hl
    exact ⟨b, e2.symm, by omega, g2, g1, g3⟩
theorem unquote_quote (a m b : List Nat) (hm : Bytes m) : unquoteN (a ++ quoteN m ++ b) (a.length : Int) = (m, ((a.length + (quoteN m).length : Nat) : Int), 0) := by
  have e : a ++ quoteN m ++ b = a ++ (34 :: (m.flatMap formN ++ 34 :: b)) := by simp [quoteN]
  have hlen : (a ++ quoteN m ++ b).length = a.length + ((m.flatMap formN).length + 2) + b.length := by rw [List.length_append, List.length_append, quoteP_len]
  have h34 : (a ++ quoteN m ++ b)[((a.length : Nat) : Int).toNat]? = some 34 := by
    rw [Int.toNat_natCast, e, List.getElem?_append_right (Nat.le_refl _)]
    simp
  have hd : (a ++ quoteN m ++ b).drop (a.length + 1) = m.flatMap formN ++ 34 :: b := by
    rw [e, ← List.drop_drop, List.drop_left]
    rfl
  have hu := unq_quote m _ (a.length + 1) ((a ++ quoteN m ++ b).length + 1) [] b hm hd (by have := flatP_ge m; omega)
  unfold unquoteN
  rw [if_neg (by omega), if_neg (by rw [h34]; simp), Int.toNat_natCast, hu, quoteP_len]
  simp only [List.nil_append, Prod.mk.injEq, true_and, and_true]
  omega
end Go.Proofs.YtdkoafmgenbkbaaDoor
