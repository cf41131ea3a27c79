/- The program's and the reference's functions on one byte: what they answer; no condition. -/
import Derived.Test.YtdkoafmgenbkbaaDoorAmong
import Derived.Test.YtdkoafmgenbkbaaDoorProg
import Derived.WalkSpells
import Derived.Deep.QuietTactic
import Derived.BigQuiet
import Derived.Outline
namespace Go.Proofs.YtdkoafmgenbkbaaDoor
set_option linter.unusedSimpArgs false
set_option linter.unusedVariables false
open Go.RowKit

def hiddenN (n : Nat) : Bool := decide (n ≠ 10 ∧ (n < 32 ∨ 126 < n))
def digitN (n : Nat) : Nat := if 48 ≤ n ∧ n ≤ 57 then n - 48 else if 97 ≤ n ∧ n ≤ 102 then n - 97 + 10 else 16
/-- the form of a byte -/
def hexN (n : Nat) : Nat := if n < 10 then 48 + n else 87 + n
def formN (n : Nat) : List Nat := if n = 34 then [92, 34] else if n = 92 then [92, 92] else if n = 10 then [92, 110] else if 32 ≤ n ∧ n ≤ 126 then [n] else [92, 120, hexN (n / 16), hexN (n % 16)]

theorem hidden_any (n : Nat) (w : World) : Calls Tryd.prog 71 #[.int .u8 (n : Int)] w fun e w' => e = .returned (.bool (hiddenN n)) ∧ Quiet w w' := by
  by_cases h1 : n = 10
  · have hv : hiddenN n = false := by simp [hiddenN, h1]
    rw [hv]; clear hv
    subst h1
    go_enter Tryd.func71, Tryd.ntmps71
    go_wp2
    go_ret
    exact ⟨rfl, Quiet.refl _⟩
  · have hv : hiddenN n = (decide (n < 32) || decide (126 < n)) := by rw [Bool.eq_iff_iff]; simp [hiddenN, h1]
    rw [hv]; clear hv
    have h1' : ((n : Int) != 10) = true := by simp; omega
    by_cases h2 : n < 32
    · go_enter Tryd.func71, Tryd.ntmps71
      go_wp2
      go_ret
      exact ⟨by simp [h1', h2], Quiet.refl _⟩
    · have h2' : decide ((n : Int) < 32) = false := by simp; omega
      go_enter Tryd.func71, Tryd.ntmps71
      go_wp2
      go_ret
      exact ⟨by simp [h1', h2]; omega, Quiet.refl _⟩

theorem digit_any (n : Nat) (hn : n < 256) (w : World) : Calls Tryd.prog 92 #[.int .u8 (n : Int)] w fun e w' => e = .returned (.int .u8 (digitN n : Int)) ∧ Quiet w w' := by
  by_cases h1 : 48 ≤ n
  · by_cases h2 : n ≤ 57
    · have hv : (digitN n : Int) = (n : Int) - 48 := by simp [digitN, h1, h2]; omega
      rw [hv]; clear hv
      go_enter Tryd.func92, Tryd.ntmps92
      go_wp2
      go_ret
      exact ⟨rfl, Quiet.refl _⟩
    · by_cases h3 : 97 ≤ n
      · by_cases h4 : n ≤ 102
        · have hv : (digitN n : Int) = (n : Int) - 97 + 10 := by simp [digitN, h1, h2, h3, h4]; omega
          rw [hv]; clear hv
          go_enter Tryd.func92, Tryd.ntmps92
          go_wp2
          go_ret
          exact ⟨rfl, Quiet.refl _⟩
        · have hv : digitN n = 16 := by simp [digitN, h2, h4]
          rw [hv]; clear hv
          go_enter Tryd.func92, Tryd.ntmps92
          go_wp2
          go_ret
          exact ⟨rfl, Quiet.refl _⟩
      · have hv : digitN n = 16 := by simp [digitN, h2, h3]
        rw [hv]; clear hv
        go_enter Tryd.func92, Tryd.ntmps92
        go_wp2
        go_ret
        exact ⟨rfl, Quiet.refl _⟩
  · have hv : digitN n = 16 := by simp [digitN, h1]; omega
    rw [hv]; clear hv
    have h3 : ¬ 97 ≤ n := by omega
    go_enter Tryd.func92, Tryd.ntmps92
    go_wp2
    go_ret
    exact ⟨rfl, Quiet.refl _⟩

theorem hex_digit (k : Nat) (h : k < 16) : (⟨#[48, 49, 50, 51, 52, 53, 54, 55, 56, 57, 97, 98, 99, 100, 101, 102]⟩ : ByteArray)[k]'h = UInt8.ofNat (hexN k) := by
  have : ∀ k : Fin 16, (⟨#[48, 49, 50, 51, 52, 53, 54, 55, 56, 57, 97, 98, 99, 100, 101, 102]⟩ : ByteArray)[k.1]'k.2 = UInt8.ofNat (hexN k.1) := by decide
  exact this ⟨k, h⟩
theorem hexN_lt (k : Nat) (h : k < 16) : hexN k < 256 := by unfold hexN; split <;> omega
theorem index_hex (W : World) (t : TypeId) (ht : Tryd.prog.underlying t = some .string) (k : Nat) (h : k < 16) (ik : IntKind) (i : Int) (hi : i = (k : Int)) :
    (Instr.index t (.string ⟨#[48, 49, 50, 51, 52, 53, 54, 55, 56, 57, 97, 98, 99, 100, 101, 102]⟩) (.int ik i)).run Tryd.prog W = .ok (.int .u8 (hexN k : Int)) W := by
  subst hi
  rw [run_index_string W t _ ik _ ht, dif_pos ⟨Int.natCast_nonneg _, by show (k : Int) < ((16 : Nat) : Int); omega⟩]
  have e : ∀ hh, (⟨#[48, 49, 50, 51, 52, 53, 54, 55, 56, 57, 97, 98, 99, 100, 101, 102]⟩ : ByteArray)[(k : Int).toNat]'hh = UInt8.ofNat (hexN k) := by
    intro hh
    exact hex_digit k h
  rw [e]
  simp [Nat.mod_eq_of_lt (hexN_lt k h)]

set_option maxRecDepth 100000 in
set_option maxHeartbeats 1000000 in
theorem form_any (n : Nat) (hn : n < 256) (w : World) : Calls Tryd.prog 72 #[.int .u8 (n : Int)] w fun e w' => e = .returned (.string (txt (formN n))) ∧ Below w.heap.size w w' := by
  by_cases h1 : n = 34
  · subst h1
    go_enter Tryd.func72, Tryd.ntmps72
    go_wp2
    go_ret
    exact ⟨rfl, Below.refl _ _⟩
  by_cases h2 : n = 92
  · subst h2
    go_enter Tryd.func72, Tryd.ntmps72
    go_wp2
    go_ret
    exact ⟨rfl, Below.refl _ _⟩
  by_cases h3 : n = 10
  · subst h3
    go_enter Tryd.func72, Tryd.ntmps72
    go_wp2
    go_ret
    exact ⟨rfl, Below.refl _ _⟩
  have e1 : ((n : Int) == 34) = false := by simp; omega
  have e2 : ((n : Int) == 92) = false := by simp; omega
  have e3 : ((n : Int) == 10) = false := by simp; omega
  by_cases h4 : 32 ≤ n ∧ n ≤ 126
  · have hv : formN n = [n] := by simp [formN, h1, h2, h3, h4]
    rw [hv]; clear hv
    obtain ⟨h4, h5⟩ := h4
    have hc : (convert 69 9 (.slice (some ⟨w.heap.size, 0, none⟩) 1 1)).run Tryd.prog (w.alloc (.cells #[.int .u8 (n : Int)] 5)) = .ok (.string (txt [n])) (w.alloc (.cells #[.int .u8 (n : Int)] 5)) :=
      run_text_of_row 69 9 5 Tryd.underlying69 Tryd.underlying5 Tryd.underlying9 (own_bytes (base := 0) (xs := [.int .u8 (n : Int)]) rfl (Nat.zero_le _) rfl (fun m hm => by simp at hm; omega) (by simp [maxLen]) 1 1 rfl rfl)
    have Hc := Lib.hid hc
    clear hc
    go_enter Tryd.func72, Tryd.ntmps72
    have hc := Hc.out
    go_wp2
    go_ret
    exact ⟨rfl, (Below.refl _ _).alloc (Nat.le_refl _) _⟩
  · have hv : txt (formN n) = ⟨#[92, 120]⟩ ++ txt [hexN (n / 16), hexN (n % 16)] := by
      have : formN n = [92, 120] ++ [hexN (n / 16), hexN (n % 16)] := by simp [formN, h1, h2, h3, h4]
      rw [this]
      apply ByteArray.ext
      rw [ByteArray.data_append]
      simp [txt]
    rw [hv]; clear hv
    have i1 : ∀ W, (Instr.index 9 (.string ⟨#[48, 49, 50, 51, 52, 53, 54, 55, 56, 57, 97, 98, 99, 100, 101, 102]⟩) (.int .u8 ((n : Int) / 16))).run Tryd.prog W = .ok (.int .u8 (hexN (n / 16) : Int)) W := fun W => index_hex W _ Tryd.underlying9 (n / 16) (by omega) _ _ (by omega)
    have i2 : ∀ W, (Instr.index 9 (.string ⟨#[48, 49, 50, 51, 52, 53, 54, 55, 56, 57, 97, 98, 99, 100, 101, 102]⟩) (.int .u8 ((n : Int) % 16))).run Tryd.prog W = .ok (.int .u8 (hexN (n % 16) : Int)) W := fun W => index_hex W _ Tryd.underlying9 (n % 16) (by omega) _ _ (by omega)
    have hx1 := hexN_lt (n / 16) (by omega)
    have hx2 := hexN_lt (n % 16) (by omega)
    generalize hexN (n / 16) = x1 at *
    generalize hexN (n % 16) = x2 at *
    have hc : (convert 69 9 (.slice (some ⟨w.heap.size, 0, none⟩) 2 2)).run Tryd.prog (w.alloc (.cells #[.int .u8 (x1 : Int), .int .u8 (x2 : Int)] 5)).drew = .ok (.string (txt [x1, x2])) (w.alloc (.cells #[.int .u8 (x1 : Int), .int .u8 (x2 : Int)] 5)).drew :=
      run_text_of_row 69 9 5 Tryd.underlying69 Tryd.underlying5 Tryd.underlying9 (own_bytes (base := 0) (xs := [.int .u8 (x1 : Int), .int .u8 (x2 : Int)]) rfl (Nat.zero_le _) rfl (fun m hm => by simp at hm; omega) (by simp [maxLen]) 2 2 rfl rfl).drew
    have Hc := Lib.hid hc
    have I1 := Lib.hid i1
    have I2 := Lib.hid i2
    clear hc i1 i2
    have hsz : (txt [x1, x2]).size = 2 := txt_size _
    have h5 : (32 ≤ n ∧ ¬ n ≤ 126) ∨ ¬ 32 ≤ n := by omega
    rcases h5 with ⟨h5, h6⟩ | h5
    all_goals
      go_enter Tryd.func72, Tryd.ntmps72
      go_wp2
      have hc := Hc.out
      have i1 := I1.out
      have i2 := I2.out
      go_region
      all_goals go_wp2
      all_goals go_ret
      all_goals exact ⟨rfl, ((Below.refl _ w).alloc (Nat.le_refl _) _).drew⟩
end Go.Proofs.YtdkoafmgenbkbaaDoor
