/- A byte among a text's bytes; what a number's text comes to: the reference's words. -/
import Derived.Test.YtdhljfblkidohaaGreatName
import Derived.Test.YtdhljfblkidohaaGreatProg
import Derived.WalkSpells
import Derived.Deep.QuietTactic
import Derived.BigQuiet
import Derived.Outline
import Derived.WalkMore
namespace Go.Proofs.YtdhljfblkidohaaGreat
set_option linter.unusedSimpArgs false
set_option linter.unusedVariables false
open Go.RowKit

/-- what an int's text comes to -/
def intV (r : Option Int) : Value := match r with
  | some v => .tuple #[.int .i64 v, .int .i64 0]
  | none => .tuple #[.int .i64 0, .int .i64 2]

theorem get_bs {s : ByteArray} {k : Nat} (h : k < s.size) : ∃ c, (bs s)[k]? = some c ∧ c < 256 := ⟨_, bs_at h, UInt8.toNat_lt _⟩
theorem index_txt (W : World) (t : TypeId) (ht : Tryz.prog.underlying t = some .string) {s : ByteArray} {k c : Nat} (hc : (bs s)[k]? = some c) (ik : IntKind) (i : Int) (hi : i = (k : Int)) :
    (Instr.index t (.string s) (.int ik i)).run Tryz.prog W = .ok (.int .u8 (c : Int)) W := by
  have hk : k < s.size := by rw [← bs_len]; exact (List.getElem?_eq_some_iff.1 hc).1
  subst hi
  rw [run_index_string W t _ ik _ ht, dif_pos ⟨Int.natCast_nonneg _, by omega⟩]
  have e : ∀ hh, (s[(k : Int).toNat]'hh).toNat = c := by
    intro hh
    have h2 : k < s.size := hk
    have h3 := bs_at h2
    rw [h3] at hc
    exact Option.some.inj hc
  rw [e]

theorem figs : bs ⟨#[48, 49, 50, 51, 52, 53, 54, 55, 56, 57]⟩ = [48, 49, 50, 51, 52, 53, 54, 55, 56, 57] := rfl
theorem mem_figs (c : Nat) : decide (c ∈ bs ⟨#[48, 49, 50, 51, 52, 53, 54, 55, 56, 57]⟩) = decide (48 ≤ c ∧ c ≤ 57) := by
  rw [figs, decide_eq_decide]
  simp
  omega
theorem fig_slice (k : Nat) (h : k < 10) : (⟨#[48, 49, 50, 51, 52, 53, 54, 55, 56, 57]⟩ : ByteArray).extract k (k + 1) = txt [48 + k] := by
  apply bs_inj
  rw [bs_extract, figs, bs_txt (fun n hn => by simp at hn; omega)]
  have : ∀ k : Fin 10, (([48, 49, 50, 51, 52, 53, 54, 55, 56, 57] : List Nat).take (k.1 + 1)).drop k.1 = [48 + k.1] := by decide
  exact this ⟨k, h⟩
theorem txt_app (l m : List Nat) : txt l ++ txt m = txt (l ++ m) := by
  apply ByteArray.ext
  rw [ByteArray.data_append]
  simp [txt]

theorem empty_app (x : ByteArray) : (⟨#[]⟩ : ByteArray) ++ x = x := by
  apply ByteArray.ext
  rw [ByteArray.data_append]
  simp

end Go.Proofs.YtdhljfblkidohaaGreat
