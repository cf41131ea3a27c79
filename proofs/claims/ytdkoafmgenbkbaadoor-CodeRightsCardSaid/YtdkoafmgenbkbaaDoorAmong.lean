/- A byte among a text's bytes; what a number's text comes to: the reference's words. -/
import Derived.Test.YtdkoafmgenbkbaaDoorName
import Derived.Test.YtdkoafmgenbkbaaDoorProg
import Derived.WalkSpells
import Derived.Deep.QuietTactic
import Derived.BigQuiet
import Derived.Outline
import Derived.WalkMore
namespace Go.Proofs.YtdkoafmgenbkbaaDoor
set_option linter.unusedSimpArgs false
set_option linter.unusedVariables false
open Go.RowKit

/-- what an int's text comes to -/
def intV (r : Option Int) : Value := match r with
  | some v => .tuple #[.int .i64 v, .int .i64 0]
  | none => .tuple #[.int .i64 0, .int .i64 2]

theorem get_bs {s : ByteArray} {k : Nat} (h : k < s.size) : ∃ c, (bs s)[k]? = some c ∧ c < 256 := ⟨_, bs_at h, UInt8.toNat_lt _⟩
theorem index_txt (W : World) (t : TypeId) (ht : Tryd.prog.underlying t = some .string) {s : ByteArray} {k c : Nat} (hc : (bs s)[k]? = some c) (ik : IntKind) (i : Int) (hi : i = (k : Int)) :
    (Instr.index t (.string s) (.int ik i)).run Tryd.prog W = .ok (.int .u8 (c : Int)) W := by
  have hk : k < s.size := by rw [← bs_len]; exact (List.getElem?_eq_some_iff.1 hc).1
  subst hi
  rw [run_index_string W t _ ik _ ht, dif_pos ⟨Int.natCast_nonneg _, by omega⟩]
  have e : ∀ hh, (s[(k : Int).toNat]'hh).toNat = c := by
    intro hh
    have h2 : k < s.size := hk
    have h3 := bs_at h2
    rw [h3] at hc
    exact Option.some.inj hc
  rw [e]

set_option maxHeartbeats 1000000 in
theorem among_any (c : Nat) (s : ByteArray) (hs : s.size ≤ maxLen) (w : World) : Calls Tryd.prog 67 #[.int .u8 (c : Int), .string s] w fun e w' => e = .returned (.bool (decide (c ∈ bs s))) ∧ Quiet w w' := by
  unfold maxLen at hs
  obtain ⟨n, hn⟩ : ∃ n, s.size = n := ⟨_, rfl⟩
  have Hn := Lib.hid hn
  rw [hn] at hs
  have hn' : (s.size : Int) = (n : Int) := by rw [hn]
  clear hn
  go_enter Tryd.func67, Tryd.ntmps67
  go_wp2_with fail
  go_loopw [5] (fun j wr => ∃ k : Nat, k ≤ n ∧ j = .int .i64 k ∧ Hid (¬ c ∈ (bs s).take k) ∧ Quiet w wr) (fun j _ => n - (intOf j).toNat)
  case atStart => exact ⟨0, by omega, rfl, by simp [Hid], Quiet.refl _⟩
  case round =>
    obtain ⟨k, hk, rfl, hin, hq⟩ := hrel
    by_cases hlt : k < n
    · obtain ⟨d, hd, d256⟩ := get_bs (s := s) (k := k) (by rw [Hn.out]; exact hlt)
      have i1 := fun W => index_txt W 9 Tryd.underlying9 hd .i64 _ rfl
      have hkl := (List.getElem?_eq_some_iff.1 hd).1
      by_cases hcd : d = c
      · subst hcd
        have hv : decide (d ∈ bs s) = true := by simp; exact List.mem_iff_getElem?.2 ⟨k, hd⟩
        have Hv := Lib.hid hv
        clear hv hd hkl
        go_wp2_with fail
        go_ret
        exact ⟨by rw [Hv.out]; rfl, hq⟩
      · have e1 : ((d : Int) == (c : Int)) = false := by simp; omega
        have hnot : ¬ c ∈ (bs s).take (k + 1) := by
          rw [List.take_succ_eq_append_getElem hkl, (List.getElem?_eq_some_iff.1 hd).2]
          intro hx
          rcases List.mem_append.1 hx with hx | hx
          · exact hin.out hx
          · simp at hx; exact hcd hx.symm
        have Hnot := Lib.hid hnot
        clear hnot hd hkl
        go_wp2_with fail
        go_roundw
        case rel => exact ⟨k + 1, by omega, by go_num, Hnot.out, hq⟩
        case measure => simp [intOf]; omega
    · have hdec : decide (k < n) = false := by simp; omega
      have hv : decide (c ∈ bs s) = false := by
        have := hin.out
        rw [List.take_of_length_le (by rw [bs_len, Hn.out]; omega)] at this
        simpa using this
      have Hv := Lib.hid hv
      clear hv
      go_wp2_with fail
      go_ret
      exact ⟨by rw [Hv.out]; rfl, hq⟩

theorem figs : bs ⟨#[48, 49, 50, 51, 52, 53, 54, 55, 56, 57]⟩ = [48, 49, 50, 51, 52, 53, 54, 55, 56, 57] := rfl
theorem mem_figs (c : Nat) : decide (c ∈ bs ⟨#[48, 49, 50, 51, 52, 53, 54, 55, 56, 57]⟩) = decide (48 ≤ c ∧ c ≤ 57) := by
  rw [figs, decide_eq_decide]
  simp
  omega
theorem fig_slice (k : Nat) (h : k < 10) : (⟨#[48, 49, 50, 51, 52, 53, 54, 55, 56, 57]⟩ : ByteArray).extract k (k + 1) = txt [48 + k] := by
  apply bs_inj
  rw [bs_extract, figs, bs_txt (fun n hn => by simp at hn; omega)]
  have : ∀ k : Fin 10, (([48, 49, 50, 51, 52, 53, 54, 55, 56, 57] : List Nat).take (k.1 + 1)).drop k.1 = [48 + k.1] := by decide
  exact this ⟨k, h⟩
theorem txt_app (l m : List Nat) : txt l ++ txt m = txt (l ++ m) := by
  apply ByteArray.ext
  rw [ByteArray.data_append]
  simp [txt]

theorem empty_app (x : ByteArray) : (⟨#[]⟩ : ByteArray) ++ x = x := by
  apply ByteArray.ext
  rw [ByteArray.data_append]
  simp

end Go.Proofs.YtdkoafmgenbkbaaDoor
