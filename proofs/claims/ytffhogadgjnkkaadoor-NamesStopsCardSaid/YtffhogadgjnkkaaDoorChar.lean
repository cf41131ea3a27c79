/- The program's functions on one byte: what they answer; no condition. -/
import Derived.Test.YtffhogadgjnkkaaDoorInt
import Derived.Test.YtffhogadgjnkkaaDoorProg
import Derived.WalkSpells
import Derived.Deep.QuietTactic
import Derived.BigQuiet
import Derived.Outline
namespace Go.Proofs.YtffhogadgjnkkaaDoor
open Go.RowKit

def hiddenN (n : Nat) : Bool := decide (n ≠ 10 ∧ (n < 32 ∨ 126 < n))
def digitN (n : Nat) : Nat := if 48 ≤ n ∧ n ≤ 57 then n - 48 else if 97 ≤ n ∧ n ≤ 102 then n - 97 + 10 else 16
/-- the form of a byte -/
def hexN (n : Nat) : Nat := if n < 10 then 48 + n else 87 + n
def formN (n : Nat) : List Nat := if n = 34 then [92, 34] else if n = 92 then [92, 92] else if n = 10 then [92, 110] else if 32 ≤ n ∧ n ≤ 126 then [n] else [92, 120, hexN (n / 16), hexN (n % 16)]

theorem hidden_any (n : Nat) (w : World) : Calls Tryd.prog 25 #[.int .u8 (n : Int)] w fun e w' => e = .returned (.bool (hiddenN n)) ∧ Quiet w w' := by
  by_cases h1 : n = 10
  · have hv : hiddenN n = false := by simp [hiddenN, h1]
    rw [hv]; clear hv
    subst h1
    go_enter Tryd.func25, Tryd.ntmps25
    go_wp2
    go_ret
    exact ⟨rfl, Quiet.refl _⟩
  · have hv : hiddenN n = (decide (n < 32) || decide (126 < n)) := by rw [Bool.eq_iff_iff]; simp [hiddenN, h1]
    rw [hv]; clear hv
    have h1' : ((n : Int) != 10) = true := by simp; omega
    by_cases h2 : n < 32
    · go_enter Tryd.func25, Tryd.ntmps25
      go_wp2
      go_ret
      exact ⟨by simp [h1', h2], Quiet.refl _⟩
    · have h2' : decide ((n : Int) < 32) = false := by simp; omega
      go_enter Tryd.func25, Tryd.ntmps25
      go_wp2
      go_ret
      exact ⟨by simp [h1', h2]; omega, Quiet.refl _⟩

theorem digit_any (n : Nat) (hn : n < 256) (w : World) : Calls Tryd.prog 30 #[.int .u8 (n : Int)] w fun e w' => e = .returned (.int .u8 (digitN n : Int)) ∧ Quiet w w' := by
  by_cases h1 : 48 ≤ n
  · by_cases h2 : n ≤ 57
    · have hv : (digitN n : Int) = (n : Int) - 48 := by simp [digitN, h1, h2]; omega
      rw [hv]; clear hv
      go_enter Tryd.func30, Tryd.ntmps30
      go_wp2
      go_ret
      exact ⟨rfl, Quiet.refl _⟩
    · by_cases h3 : 97 ≤ n
      · by_cases h4 : n ≤ 102
        · have hv : (digitN n : Int) = (n : Int) - 97 + 10 := by simp [digitN, h1, h2, h3, h4]; omega
          rw [hv]; clear hv
          go_enter Tryd.func30, Tryd.ntmps30
          go_wp2
          go_ret
          exact ⟨rfl, Quiet.refl _⟩
        · have hv : digitN n = 16 := by simp [digitN, h2, h4]
          rw [hv]; clear hv
          go_enter Tryd.func30, Tryd.ntmps30
          go_wp2
          go_ret
          exact ⟨rfl, Quiet.refl _⟩
      · have hv : digitN n = 16 := by simp [digitN, h2, h3]
        rw [hv]; clear hv
        go_enter Tryd.func30, Tryd.ntmps30
        go_wp2
        go_ret
        exact ⟨rfl, Quiet.refl _⟩
  · have hv : digitN n = 16 := by simp [digitN, h1]; omega
    rw [hv]; clear hv
    have h3 : ¬ 97 ≤ n := by omega
    go_enter Tryd.func30, Tryd.ntmps30
    go_wp2
    go_ret
    exact ⟨rfl, Quiet.refl _⟩

theorem hex_digit (k : Nat) (h : k < 16) : (⟨#[48, 49, 50, 51, 52, 53, 54, 55, 56, 57, 97, 98, 99, 100, 101, 102]⟩ : ByteArray)[k]'h = UInt8.ofNat (hexN k) := by
  have : ∀ k : Fin 16, (⟨#[48, 49, 50, 51, 52, 53, 54, 55, 56, 57, 97, 98, 99, 100, 101, 102]⟩ : ByteArray)[k.1]'k.2 = UInt8.ofNat (hexN k.1) := by decide
  exact this ⟨k, h⟩
theorem hexN_lt (k : Nat) (h : k < 16) : hexN k < 256 := by unfold hexN; split <;> omega
theorem index_hex (W : World) (t : TypeId) (ht : Tryd.prog.underlying t = some .string) (k : Nat) (h : k < 16) (ik : IntKind) (i : Int) (hi : i = (k : Int)) :
    (Instr.index t (.string ⟨#[48, 49, 50, 51, 52, 53, 54, 55, 56, 57, 97, 98, 99, 100, 101, 102]⟩) (.int ik i)).run Tryd.prog W = .ok (.int .u8 (hexN k : Int)) W := by
  subst hi
  rw [run_index_string W t _ ik _ ht, dif_pos ⟨Int.natCast_nonneg _, by show (k : Int) < ((16 : Nat) : Int); omega⟩]
  have e : ∀ hh, (⟨#[48, 49, 50, 51, 52, 53, 54, 55, 56, 57, 97, 98, 99, 100, 101, 102]⟩ : ByteArray)[(k : Int).toNat]'hh = UInt8.ofNat (hexN k) := by
    intro hh
    exact hex_digit k h
  rw [e]
  simp [Nat.mod_eq_of_lt (hexN_lt k h)]

end Go.Proofs.YtffhogadgjnkkaaDoor
