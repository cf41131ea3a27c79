/- Taken over out of another chapter (its text Live): what is needed here. Taken over out of another chapter (its text RdP): what is needed here. Taken over out of another chapter (its text RCa): what is needed here. Taken over out of another chapter (its text RRd): what is needed here. Taken over out of another chapter (its text CpT): what is needed here. Taken over out of another chapter (its text CpV): what is needed here. Taken over out of another chapter (its text CrA): what is needed here. Taken over out of another chapter (its text EPTree): what is needed here. Taken over out of another chapter (its text EFlat0): what is needed here. Taken over out of another chapter (its text EFlat): what is needed here. Taken over out of another chapter (its text ETw8): what is needed here. Taken over out of another chapter (its text DoorC): what is needed here. Taken over out of another chapter (its text OpenL): what is needed here. Taken over out of another chapter (its text DoorM): what is needed here. Taken over out of another chapter (its text RCi): what is needed here. Taken over out of another chapter (its text ERg2): what is needed here. Taken over out of another chapter (its text CpS): what is needed here. -/
import Derived.Test.YtdkoafmgenbkbaaDoorProg
import Derived.Test.YtdkoafmgenbkbaaDoorShelf
import Derived.Test.YtdkoafmgenbkbaaDoorCards
import Derived.Test.YtdkoafmgenbkbaaDoorTie
import Derived.Test.YtdkoafmgenbkbaaDoorKM1
import Derived.Below
import Derived.Deep.AppendLies
import Derived.Deep.Draws
import Derived.Deep.Fields
import Derived.Deep.Slices
import Derived.Lib.Hide
import Derived.Maps.AppendAt
import Derived.Orders
import Derived.OwnWalk
import Derived.ProofKit
import Derived.WalkKit
import Derived.BigQuiet
import Derived.Deep.QuietTactic
import Derived.Deep.RegionHeld3
import Derived.Laws.BytesString
import Derived.Laws.IdiomStrings
import Derived.Lib.AppendStr
import Derived.Lib.CutLaws
import Derived.Lib.ItoaNum
import Derived.Lib.ParseIntB
import Derived.Lib.SlicesS
import Derived.Outline
import Derived.WalkMore
import Derived.WalkSpells
import Derived.Laws.Cover1
import Derived.Lib.SliceRun
import Derived.Deep.CutRange
import Derived.Laws.MakeOwn
import Derived.Test.YtdkoafmgenbkbaaDoorKM2
import Derived.BigRegion
import Derived.Deep.CutBlock
import Derived.Deep.LoopGhost
import Derived.Deep.RegionHeld2
import Derived.Deep.RegionLaw
import Derived.Defers
import Derived.IntWalk
import Derived.Laws.EntriesVeiled
import Derived.Laws.Pointers
import Derived.Laws.Rows
import Derived.Lib.Builder
import Derived.Lib.FrozenHead
import Derived.Recover
import Derived.RegionTactic
import Derived.StillTailTactics
import Derived.Tactics
import Derived.Tactics2
import Derived.WalkSmall
import Derived.Test.YtdkoafmgenbkbaaDoorKM3
import Derived.Test.YtdkoafmgenbkbaaDoorKCpR
import Derived.ChangeOld
import Derived.Deep.DeepHandedRow
import Derived.Deep.Strs
import Derived.JoinedCond
import Derived.Lib.LaidTab
import Derived.OpenShut
import Derived.ShutString
import Derived.Stop.LaidErr
import Derived.SizedLaws
namespace Go.Proofs.YtdkoafmgenbkbaaDoor
set_option linter.unusedSimpArgs false
set_option linter.unusedVariables false
open Go.RowKit
/-- behind a growth of another block a row stays -/
theorem Own1.apart {α : Type} {w w' : World} {base size : Nat} {e : TypeId} {R : List Value → α → Prop} {v : Value} {l : List α} {b : Option Nat} (h : Own1 w base e size R v l) (hg : w.grownBy w' b) (hne : ∀ g, v.ownBlock = some g → some g ≠ b) : Own1 w' base e size R v l := by
  obtain ⟨xs, ⟨h1, h2⟩, h3⟩ := h
  refine ⟨xs, ⟨h1, ?_⟩, h3⟩
  rcases h2 with h2 | ⟨g, cap, cur, r1, r2, r3, r4⟩
  · exact .inl h2
  · refine .inr ⟨g, cap, cur, r1, r2, ?_, r4⟩
    have hlt : g < w.heap.size := by
      rcases Nat.lt_or_ge g w.heap.size with hlt | hge
      · exact hlt
      · rw [Array.getElem?_eq_none hge] at r3; cases r3
    rw [hg.block g hlt (hne g (by rw [r1]; rfl))]
    exact r3
section
variable {α : Type} {w w' : World} {base size : Nat} {e : TypeId} {R : List Value → α → Prop} {v v' : Nat → Value} {c : Nat → List α} {lv lv' : Nat → Bool}
end
section
variable {P : Program} {α : Type}
end
end Go.Proofs.YtdkoafmgenbkbaaDoor
namespace Go.Proofs.YtdkoafmgenbkbaaDoor
set_option linter.unusedSimpArgs false
set_option linter.unusedVariables false
open Go.RowKit
/-- the Op of a word, or at most 0 -/
def opN (w : ByteArray) : Int := Lib.idxOfS wordsC w
theorem idx_at (x : ByteArray) : ∀ (zs : List ByteArray) (i : Nat), Lib.idxFromS zs x i = -1 ∨ ∃ k, k < zs.length ∧ Lib.idxFromS zs x i = ((i + k : Nat) : Int) ∧ zs[k]? = some x
  | [], _ => .inl rfl
  | z :: zs, i => by
    unfold Lib.idxFromS
    by_cases h : z = x
    · rw [if_pos h]; exact .inr ⟨0, by simp, by simp, by simp [h]⟩
    · rw [if_neg h]
      rcases idx_at x zs (i + 1) with h1 | ⟨k, h1, h2, h3⟩
      · exact .inl h1
      · exact .inr ⟨k + 1, by simpa using h1, by rw [h2]; congr 1; omega, by simpa using h3⟩
theorem op_word {w : ByteArray} (h : 1 ≤ opN w) : opN w ≤ 40 ∧ wordC (opN w) = w := by
  rcases idx_at w wordsC 0 with h1 | ⟨k, h1, h2, h3⟩
  · unfold opN Lib.idxOfS at h; omega
  · have hk : k < 41 := h1
    have e : opN w = (k : Int) := by unfold opN Lib.idxOfS; rw [h2]; simp
    rw [e] at h ⊢
    refine ⟨by omega, ?_⟩
    unfold wordC
    rw [if_pos (by omega), Int.toNat_natCast, h3]
    rfl
theorem op_of (k : Int) (h1 : 1 ≤ k) (h2 : k ≤ 40) : opN (wordC k) = k := by
  rcases (by omega : k = 1 ∨ k = 2 ∨ k = 3 ∨ k = 4 ∨ k = 5 ∨ k = 6 ∨ k = 7 ∨ k = 8 ∨ k = 9 ∨ k = 10 ∨ k = 11 ∨ k = 12 ∨ k = 13 ∨ k = 14 ∨ k = 15 ∨ k = 16 ∨ k = 17 ∨ k = 18 ∨ k = 19 ∨ k = 20 ∨ k = 21 ∨ k = 22 ∨ k = 23 ∨ k = 24 ∨ k = 25 ∨ k = 26 ∨ k = 27 ∨ k = 28 ∨ k = 29 ∨ k = 30 ∨ k = 31 ∨ k = 32 ∨ k = 33 ∨ k = 34 ∨ k = 35 ∨ k = 36 ∨ k = 37 ∨ k = 38 ∨ k = 39 ∨ k = 40) with rfl | rfl | rfl | rfl | rfl | rfl | rfl | rfl | rfl | rfl | rfl | rfl | rfl | rfl | rfl | rfl | rfl | rfl | rfl | rfl | rfl | rfl | rfl | rfl | rfl | rfl | rfl | rfl | rfl | rfl | rfl | rfl | rfl | rfl | rfl | rfl | rfl | rfl | rfl | rfl
  all_goals decide +kernel
theorem hasN_six (op : Int) : hasN op = 0 ∨ hasN op = 1 ∨ hasN op = 2 ∨ hasN op = 3 ∨ hasN op = 4 ∨ hasN op = 5 := by
  unfold hasN
  repeat' split
  all_goals simp
end Go.Proofs.YtdkoafmgenbkbaaDoor
namespace Go.Proofs.YtdkoafmgenbkbaaDoor
set_option linter.unusedSimpArgs false
set_option linter.unusedVariables false
open Go.RowKit
theorem words_at (op : Int) (h1 : 1 ≤ op) (h2 : op ≤ 40) : (#[.string ⟨#[115, 116, 101, 112]⟩, .string ⟨#[105, 110, 116]⟩, .string ⟨#[116, 101, 120, 116]⟩, .string ⟨#[116, 114, 117, 101]⟩, .string ⟨#[102, 97, 108, 115, 101]⟩, .string ⟨#[115, 101, 108, 102]⟩, .string ⟨#[110, 111, 110, 101]⟩, .string ⟨#[108, 111, 97, 100]⟩, .string ⟨#[102, 114, 101, 101]⟩, .string ⟨#[112, 114, 111, 112]⟩, .string ⟨#[107, 105, 100, 115]⟩, .string ⟨#[114, 101, 102]⟩, .string ⟨#[112, 97, 114, 101, 110, 116]⟩, .string ⟨#[105, 115]⟩, .string ⟨#[97, 108, 108]⟩, .string ⟨#[115, 105, 122, 101]⟩, .string ⟨#[102, 105, 114, 115, 116]⟩, .string ⟨#[115, 104, 111, 119]⟩, .string ⟨#[99, 111, 110, 99, 101, 112, 116]⟩, .string ⟨#[105, 100]⟩, .string ⟨#[114, 101, 97, 100]⟩, .string ⟨#[97, 100, 100]⟩, .string ⟨#[115, 117, 98]⟩, .string ⟨#[109, 117, 108]⟩, .string ⟨#[101, 113]⟩, .string ⟨#[110, 101]⟩, .string ⟨#[108, 116]⟩, .string ⟨#[108, 101]⟩, .string ⟨#[110, 111, 116]⟩, .string ⟨#[97, 110, 100]⟩, .string ⟨#[111, 114]⟩, .string ⟨#[116, 114, 117, 116, 104]⟩, .string ⟨#[117, 110, 108, 101, 115, 115]⟩, .string ⟨#[106, 117, 109, 112]⟩, .string ⟨#[97, 110, 121]⟩, .string ⟨#[101, 118, 101, 114, 121]⟩, .string ⟨#[111, 110, 108, 121]⟩, .string ⟨#[115, 117, 109]⟩, .string ⟨#[110, 101, 120, 116]⟩, .string ⟨#[116, 97, 107, 101]⟩] : Array Value)[op.toNat - 1]? = some (.string (wordC op)) := by
  rcases (by omega : op = 1 ∨ op = 2 ∨ op = 3 ∨ op = 4 ∨ op = 5 ∨ op = 6 ∨ op = 7 ∨ op = 8 ∨ op = 9 ∨ op = 10 ∨ op = 11 ∨ op = 12 ∨ op = 13 ∨ op = 14 ∨ op = 15 ∨ op = 16 ∨ op = 17 ∨ op = 18 ∨ op = 19 ∨ op = 20 ∨ op = 21 ∨ op = 22 ∨ op = 23 ∨ op = 24 ∨ op = 25 ∨ op = 26 ∨ op = 27 ∨ op = 28 ∨ op = 29 ∨ op = 30 ∨ op = 31 ∨ op = 32 ∨ op = 33 ∨ op = 34 ∨ op = 35 ∨ op = 36 ∨ op = 37 ∨ op = 38 ∨ op = 39 ∨ op = 40) with rfl | rfl | rfl | rfl | rfl | rfl | rfl | rfl | rfl | rfl | rfl | rfl | rfl | rfl | rfl | rfl | rfl | rfl | rfl | rfl | rfl | rfl | rfl | rfl | rfl | rfl | rfl | rfl | rfl | rfl | rfl | rfl | rfl | rfl | rfl | rfl | rfl | rfl | rfl | rfl <;> rfl
set_option maxRecDepth 100000 in
set_option maxHeartbeats 8000000 in
theorem word_any (op : Int) (w : World) : Calls Tryd.prog 39 #[.int .i64 op] w fun e w' => e = .returned (.string (wordC op)) ∧ Below w.heap.size w w' := by
  by_cases hr : 1 ≤ op ∧ op ≤ 40
  · obtain ⟨h1, h2⟩ := hr
    have h3 : ¬ op < 1 := by omega
    have h4 : ¬ 40 < op := by omega
    have h5 : 0 ≤ op - 1 := by omega
    have h6 : op - 1 < 40 := by omega
    have f1 : (w.alloc (.cells #[.string ⟨#[115, 116, 101, 112]⟩, .string ⟨#[105, 110, 116]⟩, .string ⟨#[116, 101, 120, 116]⟩, .string ⟨#[116, 114, 117, 101]⟩, .string ⟨#[102, 97, 108, 115, 101]⟩, .string ⟨#[115, 101, 108, 102]⟩, .string ⟨#[110, 111, 110, 101]⟩, .string ⟨#[108, 111, 97, 100]⟩, .string ⟨#[102, 114, 101, 101]⟩, .string ⟨#[112, 114, 111, 112]⟩, .string ⟨#[107, 105, 100, 115]⟩, .string ⟨#[114, 101, 102]⟩, .string ⟨#[112, 97, 114, 101, 110, 116]⟩, .string ⟨#[105, 115]⟩, .string ⟨#[97, 108, 108]⟩, .string ⟨#[115, 105, 122, 101]⟩, .string ⟨#[102, 105, 114, 115, 116]⟩, .string ⟨#[115, 104, 111, 119]⟩, .string ⟨#[99, 111, 110, 99, 101, 112, 116]⟩, .string ⟨#[105, 100]⟩, .string ⟨#[114, 101, 97, 100]⟩, .string ⟨#[97, 100, 100]⟩, .string ⟨#[115, 117, 98]⟩, .string ⟨#[109, 117, 108]⟩, .string ⟨#[101, 113]⟩, .string ⟨#[110, 101]⟩, .string ⟨#[108, 116]⟩, .string ⟨#[108, 101]⟩, .string ⟨#[110, 111, 116]⟩, .string ⟨#[97, 110, 100]⟩, .string ⟨#[111, 114]⟩, .string ⟨#[116, 114, 117, 116, 104]⟩, .string ⟨#[117, 110, 108, 101, 115, 115]⟩, .string ⟨#[106, 117, 109, 112]⟩, .string ⟨#[97, 110, 121]⟩, .string ⟨#[101, 118, 101, 114, 121]⟩, .string ⟨#[111, 110, 108, 121]⟩, .string ⟨#[115, 117, 109]⟩, .string ⟨#[110, 101, 120, 116]⟩, .string ⟨#[116, 97, 107, 101]⟩] 9)).cell? ⟨w.heap.size, op.toNat - 1, none⟩ = some (.string (wordC op)) := (Blk.new w 9 #[.string ⟨#[115, 116, 101, 112]⟩, .string ⟨#[105, 110, 116]⟩, .string ⟨#[116, 101, 120, 116]⟩, .string ⟨#[116, 114, 117, 101]⟩, .string ⟨#[102, 97, 108, 115, 101]⟩, .string ⟨#[115, 101, 108, 102]⟩, .string ⟨#[110, 111, 110, 101]⟩, .string ⟨#[108, 111, 97, 100]⟩, .string ⟨#[102, 114, 101, 101]⟩, .string ⟨#[112, 114, 111, 112]⟩, .string ⟨#[107, 105, 100, 115]⟩, .string ⟨#[114, 101, 102]⟩, .string ⟨#[112, 97, 114, 101, 110, 116]⟩, .string ⟨#[105, 115]⟩, .string ⟨#[97, 108, 108]⟩, .string ⟨#[115, 105, 122, 101]⟩, .string ⟨#[102, 105, 114, 115, 116]⟩, .string ⟨#[115, 104, 111, 119]⟩, .string ⟨#[99, 111, 110, 99, 101, 112, 116]⟩, .string ⟨#[105, 100]⟩, .string ⟨#[114, 101, 97, 100]⟩, .string ⟨#[97, 100, 100]⟩, .string ⟨#[115, 117, 98]⟩, .string ⟨#[109, 117, 108]⟩, .string ⟨#[101, 113]⟩, .string ⟨#[110, 101]⟩, .string ⟨#[108, 116]⟩, .string ⟨#[108, 101]⟩, .string ⟨#[110, 111, 116]⟩, .string ⟨#[97, 110, 100]⟩, .string ⟨#[111, 114]⟩, .string ⟨#[116, 114, 117, 116, 104]⟩, .string ⟨#[117, 110, 108, 101, 115, 115]⟩, .string ⟨#[106, 117, 109, 112]⟩, .string ⟨#[97, 110, 121]⟩, .string ⟨#[101, 118, 101, 114, 121]⟩, .string ⟨#[111, 110, 108, 121]⟩, .string ⟨#[115, 117, 109]⟩, .string ⟨#[110, 101, 120, 116]⟩, .string ⟨#[116, 97, 107, 101]⟩]).cell (words_at op h1 h2)
    have f2 := words_at op h1 h2
    go_enter Tryd.func39, Tryd.ntmps39
    go_wp2_with fail
    go_ret
    exact ⟨rfl, (Below.refl _ _).alloc (Nat.le_refl _) _⟩
  · have hw : wordC op = ⟨#[]⟩ := by unfold wordC; rw [if_neg hr]
    have HW := Lib.hid hw
    clear hw
    by_cases h1 : op < 1
    · have h1d : decide (op < 1) = true := by simpa using h1
      go_enter Tryd.func39, Tryd.ntmps39
      go_wp2_with fail
      go_ret
      exact ⟨by rw [HW.out]; rfl, (Below.refl _ _).alloc (Nat.le_refl _) _⟩
    · have h2 : 40 < op := by omega
      have h1d : decide (op < 1) = false := by simpa using h1
      have h2d : decide (40 < op) = true := by simpa using h2
      go_enter Tryd.func39, Tryd.ntmps39
      go_wp2_with fail
      go_ret
      exact ⟨by rw [HW.out]; rfl, (Below.refl _ _).alloc (Nat.le_refl _) _⟩
set_option maxRecDepth 100000 in
set_option maxHeartbeats 8000000 in
theorem has_any (op : Int) (h1 : 1 ≤ op) (h2 : op ≤ 40) (w : World) : Calls Tryd.prog 40 #[.string (wordC op)] w fun e w' => e = .returned (.string (hasC op)) ∧ Quiet w w' := by
  rcases (by omega : op = 1 ∨ op = 2 ∨ op = 3 ∨ op = 4 ∨ op = 5 ∨ op = 6 ∨ op = 7 ∨ op = 8 ∨ op = 9 ∨ op = 10 ∨ op = 11 ∨ op = 12 ∨ op = 13 ∨ op = 14 ∨ op = 15 ∨ op = 16 ∨ op = 17 ∨ op = 18 ∨ op = 19 ∨ op = 20 ∨ op = 21 ∨ op = 22 ∨ op = 23 ∨ op = 24 ∨ op = 25 ∨ op = 26 ∨ op = 27 ∨ op = 28 ∨ op = 29 ∨ op = 30 ∨ op = 31 ∨ op = 32 ∨ op = 33 ∨ op = 34 ∨ op = 35 ∨ op = 36 ∨ op = 37 ∨ op = 38 ∨ op = 39 ∨ op = 40) with rfl | rfl | rfl | rfl | rfl | rfl | rfl | rfl | rfl | rfl | rfl | rfl | rfl | rfl | rfl | rfl | rfl | rfl | rfl | rfl | rfl | rfl | rfl | rfl | rfl | rfl | rfl | rfl | rfl | rfl | rfl | rfl | rfl | rfl | rfl | rfl | rfl | rfl | rfl | rfl
  · rw [show wordC 1 = ⟨#[115, 116, 101, 112]⟩ from rfl, show hasC 1 = ⟨#[99, 111, 117, 110, 116, 32, 49]⟩ from rfl]
    clear h1 h2
    go_enter Tryd.func40, Tryd.ntmps40
    go_wp2_with fail
    go_ret
    exact ⟨rfl, Quiet.refl _⟩
  · rw [show wordC 2 = ⟨#[105, 110, 116]⟩ from rfl, show hasC 2 = ⟨#[110, 117, 109, 98, 101, 114]⟩ from rfl]
    clear h1 h2
    go_enter Tryd.func40, Tryd.ntmps40
    go_wp2_with fail
    go_ret
    exact ⟨rfl, Quiet.refl _⟩
  · rw [show wordC 3 = ⟨#[116, 101, 120, 116]⟩ from rfl, show hasC 3 = ⟨#[116, 101, 120, 116]⟩ from rfl]
    clear h1 h2
    go_enter Tryd.func40, Tryd.ntmps40
    go_wp2_with fail
    go_ret
    exact ⟨rfl, Quiet.refl _⟩
  · rw [show wordC 4 = ⟨#[116, 114, 117, 101]⟩ from rfl, show hasC 4 = ⟨#[]⟩ from rfl]
    clear h1 h2
    go_enter Tryd.func40, Tryd.ntmps40
    go_wp2_with fail
    go_ret
    exact ⟨rfl, Quiet.refl _⟩
  · rw [show wordC 5 = ⟨#[102, 97, 108, 115, 101]⟩ from rfl, show hasC 5 = ⟨#[]⟩ from rfl]
    clear h1 h2
    go_enter Tryd.func40, Tryd.ntmps40
    go_wp2_with fail
    go_ret
    exact ⟨rfl, Quiet.refl _⟩
  · rw [show wordC 6 = ⟨#[115, 101, 108, 102]⟩ from rfl, show hasC 6 = ⟨#[]⟩ from rfl]
    clear h1 h2
    go_enter Tryd.func40, Tryd.ntmps40
    go_wp2_with fail
    go_ret
    exact ⟨rfl, Quiet.refl _⟩
  · rw [show wordC 7 = ⟨#[110, 111, 110, 101]⟩ from rfl, show hasC 7 = ⟨#[]⟩ from rfl]
    clear h1 h2
    go_enter Tryd.func40, Tryd.ntmps40
    go_wp2_with fail
    go_ret
    exact ⟨rfl, Quiet.refl _⟩
  · rw [show wordC 8 = ⟨#[108, 111, 97, 100]⟩ from rfl, show hasC 8 = ⟨#[99, 111, 117, 110, 116, 32, 48]⟩ from rfl]
    clear h1 h2
    go_enter Tryd.func40, Tryd.ntmps40
    go_wp2_with fail
    go_ret
    exact ⟨rfl, Quiet.refl _⟩
  · rw [show wordC 9 = ⟨#[102, 114, 101, 101]⟩ from rfl, show hasC 9 = ⟨#[]⟩ from rfl]
    clear h1 h2
    go_enter Tryd.func40, Tryd.ntmps40
    go_wp2_with fail
    go_ret
    exact ⟨rfl, Quiet.refl _⟩
  · rw [show wordC 10 = ⟨#[112, 114, 111, 112]⟩ from rfl, show hasC 10 = ⟨#[110, 97, 109, 101]⟩ from rfl]
    clear h1 h2
    go_enter Tryd.func40, Tryd.ntmps40
    go_wp2_with fail
    go_ret
    exact ⟨rfl, Quiet.refl _⟩
  · rw [show wordC 11 = ⟨#[107, 105, 100, 115]⟩ from rfl, show hasC 11 = ⟨#[110, 97, 109, 101]⟩ from rfl]
    clear h1 h2
    go_enter Tryd.func40, Tryd.ntmps40
    go_wp2_with fail
    go_ret
    exact ⟨rfl, Quiet.refl _⟩
  · rw [show wordC 12 = ⟨#[114, 101, 102]⟩ from rfl, show hasC 12 = ⟨#[110, 97, 109, 101]⟩ from rfl]
    clear h1 h2
    go_enter Tryd.func40, Tryd.ntmps40
    go_wp2_with fail
    go_ret
    exact ⟨rfl, Quiet.refl _⟩
  · rw [show wordC 13 = ⟨#[112, 97, 114, 101, 110, 116]⟩ from rfl, show hasC 13 = ⟨#[]⟩ from rfl]
    clear h1 h2
    go_enter Tryd.func40, Tryd.ntmps40
    go_wp2_with fail
    go_ret
    exact ⟨rfl, Quiet.refl _⟩
  · rw [show wordC 14 = ⟨#[105, 115]⟩ from rfl, show hasC 14 = ⟨#[110, 97, 109, 101]⟩ from rfl]
    clear h1 h2
    go_enter Tryd.func40, Tryd.ntmps40
    go_wp2_with fail
    go_ret
    exact ⟨rfl, Quiet.refl _⟩
  · rw [show wordC 15 = ⟨#[97, 108, 108]⟩ from rfl, show hasC 15 = ⟨#[110, 97, 109, 101]⟩ from rfl]
    clear h1 h2
    go_enter Tryd.func40, Tryd.ntmps40
    go_wp2_with fail
    go_ret
    exact ⟨rfl, Quiet.refl _⟩
  · rw [show wordC 16 = ⟨#[115, 105, 122, 101]⟩ from rfl, show hasC 16 = ⟨#[]⟩ from rfl]
    clear h1 h2
    go_enter Tryd.func40, Tryd.ntmps40
    go_wp2_with fail
    go_ret
    exact ⟨rfl, Quiet.refl _⟩
  · rw [show wordC 17 = ⟨#[102, 105, 114, 115, 116]⟩ from rfl, show hasC 17 = ⟨#[]⟩ from rfl]
    clear h1 h2
    go_enter Tryd.func40, Tryd.ntmps40
    go_wp2_with fail
    go_ret
    exact ⟨rfl, Quiet.refl _⟩
  · rw [show wordC 18 = ⟨#[115, 104, 111, 119]⟩ from rfl, show hasC 18 = ⟨#[]⟩ from rfl]
    clear h1 h2
    go_enter Tryd.func40, Tryd.ntmps40
    go_wp2_with fail
    go_ret
    exact ⟨rfl, Quiet.refl _⟩
  · rw [show wordC 19 = ⟨#[99, 111, 110, 99, 101, 112, 116]⟩ from rfl, show hasC 19 = ⟨#[]⟩ from rfl]
    clear h1 h2
    go_enter Tryd.func40, Tryd.ntmps40
    go_wp2_with fail
    go_ret
    exact ⟨rfl, Quiet.refl _⟩
  · rw [show wordC 20 = ⟨#[105, 100]⟩ from rfl, show hasC 20 = ⟨#[]⟩ from rfl]
    clear h1 h2
    go_enter Tryd.func40, Tryd.ntmps40
    go_wp2_with fail
    go_ret
    exact ⟨rfl, Quiet.refl _⟩
  · rw [show wordC 21 = ⟨#[114, 101, 97, 100]⟩ from rfl, show hasC 21 = ⟨#[]⟩ from rfl]
    clear h1 h2
    go_enter Tryd.func40, Tryd.ntmps40
    go_wp2_with fail
    go_ret
    exact ⟨rfl, Quiet.refl _⟩
  · rw [show wordC 22 = ⟨#[97, 100, 100]⟩ from rfl, show hasC 22 = ⟨#[]⟩ from rfl]
    clear h1 h2
    go_enter Tryd.func40, Tryd.ntmps40
    go_wp2_with fail
    go_ret
    exact ⟨rfl, Quiet.refl _⟩
  · rw [show wordC 23 = ⟨#[115, 117, 98]⟩ from rfl, show hasC 23 = ⟨#[]⟩ from rfl]
    clear h1 h2
    go_enter Tryd.func40, Tryd.ntmps40
    go_wp2_with fail
    go_ret
    exact ⟨rfl, Quiet.refl _⟩
  · rw [show wordC 24 = ⟨#[109, 117, 108]⟩ from rfl, show hasC 24 = ⟨#[]⟩ from rfl]
    clear h1 h2
    go_enter Tryd.func40, Tryd.ntmps40
    go_wp2_with fail
    go_ret
    exact ⟨rfl, Quiet.refl _⟩
  · rw [show wordC 25 = ⟨#[101, 113]⟩ from rfl, show hasC 25 = ⟨#[]⟩ from rfl]
    clear h1 h2
    go_enter Tryd.func40, Tryd.ntmps40
    go_wp2_with fail
    go_ret
    exact ⟨rfl, Quiet.refl _⟩
  · rw [show wordC 26 = ⟨#[110, 101]⟩ from rfl, show hasC 26 = ⟨#[]⟩ from rfl]
    clear h1 h2
    go_enter Tryd.func40, Tryd.ntmps40
    go_wp2_with fail
    go_ret
    exact ⟨rfl, Quiet.refl _⟩
  · rw [show wordC 27 = ⟨#[108, 116]⟩ from rfl, show hasC 27 = ⟨#[]⟩ from rfl]
    clear h1 h2
    go_enter Tryd.func40, Tryd.ntmps40
    go_wp2_with fail
    go_ret
    exact ⟨rfl, Quiet.refl _⟩
  · rw [show wordC 28 = ⟨#[108, 101]⟩ from rfl, show hasC 28 = ⟨#[]⟩ from rfl]
    clear h1 h2
    go_enter Tryd.func40, Tryd.ntmps40
    go_wp2_with fail
    go_ret
    exact ⟨rfl, Quiet.refl _⟩
  · rw [show wordC 29 = ⟨#[110, 111, 116]⟩ from rfl, show hasC 29 = ⟨#[]⟩ from rfl]
    clear h1 h2
    go_enter Tryd.func40, Tryd.ntmps40
    go_wp2_with fail
    go_ret
    exact ⟨rfl, Quiet.refl _⟩
  · rw [show wordC 30 = ⟨#[97, 110, 100]⟩ from rfl, show hasC 30 = ⟨#[112, 108, 97, 99, 101]⟩ from rfl]
    clear h1 h2
    go_enter Tryd.func40, Tryd.ntmps40
    go_wp2_with fail
    go_ret
    exact ⟨rfl, Quiet.refl _⟩
  · rw [show wordC 31 = ⟨#[111, 114]⟩ from rfl, show hasC 31 = ⟨#[112, 108, 97, 99, 101]⟩ from rfl]
    clear h1 h2
    go_enter Tryd.func40, Tryd.ntmps40
    go_wp2_with fail
    go_ret
    exact ⟨rfl, Quiet.refl _⟩
  · rw [show wordC 32 = ⟨#[116, 114, 117, 116, 104]⟩ from rfl, show hasC 32 = ⟨#[]⟩ from rfl]
    clear h1 h2
    go_enter Tryd.func40, Tryd.ntmps40
    go_wp2_with fail
    go_ret
    exact ⟨rfl, Quiet.refl _⟩
  · rw [show wordC 33 = ⟨#[117, 110, 108, 101, 115, 115]⟩ from rfl, show hasC 33 = ⟨#[112, 108, 97, 99, 101]⟩ from rfl]
    clear h1 h2
    go_enter Tryd.func40, Tryd.ntmps40
    go_wp2_with fail
    go_ret
    exact ⟨rfl, Quiet.refl _⟩
  · rw [show wordC 34 = ⟨#[106, 117, 109, 112]⟩ from rfl, show hasC 34 = ⟨#[112, 108, 97, 99, 101]⟩ from rfl]
    clear h1 h2
    go_enter Tryd.func40, Tryd.ntmps40
    go_wp2_with fail
    go_ret
    exact ⟨rfl, Quiet.refl _⟩
  · rw [show wordC 35 = ⟨#[97, 110, 121]⟩ from rfl, show hasC 35 = ⟨#[]⟩ from rfl]
    clear h1 h2
    go_enter Tryd.func40, Tryd.ntmps40
    go_wp2_with fail
    go_ret
    exact ⟨rfl, Quiet.refl _⟩
  · rw [show wordC 36 = ⟨#[101, 118, 101, 114, 121]⟩ from rfl, show hasC 36 = ⟨#[]⟩ from rfl]
    clear h1 h2
    go_enter Tryd.func40, Tryd.ntmps40
    go_wp2_with fail
    go_ret
    exact ⟨rfl, Quiet.refl _⟩
  · rw [show wordC 37 = ⟨#[111, 110, 108, 121]⟩ from rfl, show hasC 37 = ⟨#[]⟩ from rfl]
    clear h1 h2
    go_enter Tryd.func40, Tryd.ntmps40
    go_wp2_with fail
    go_ret
    exact ⟨rfl, Quiet.refl _⟩
  · rw [show wordC 38 = ⟨#[115, 117, 109]⟩ from rfl, show hasC 38 = ⟨#[]⟩ from rfl]
    clear h1 h2
    go_enter Tryd.func40, Tryd.ntmps40
    go_wp2_with fail
    go_ret
    exact ⟨rfl, Quiet.refl _⟩
  · rw [show wordC 39 = ⟨#[110, 101, 120, 116]⟩ from rfl, show hasC 39 = ⟨#[112, 108, 97, 99, 101]⟩ from rfl]
    clear h1 h2
    go_enter Tryd.func40, Tryd.ntmps40
    go_wp2_with fail
    go_ret
    exact ⟨rfl, Quiet.refl _⟩
  · rw [show wordC 40 = ⟨#[116, 97, 107, 101]⟩ from rfl, show hasC 40 = ⟨#[112, 108, 97, 99, 101]⟩ from rfl]
    clear h1 h2
    go_enter Tryd.func40, Tryd.ntmps40
    go_wp2_with fail
    go_ret
    exact ⟨rfl, Quiet.refl _⟩
end Go.Proofs.YtdkoafmgenbkbaaDoor
namespace Go.Proofs.YtdkoafmgenbkbaaDoor
set_option linter.unusedSimpArgs false
set_option linter.unusedVariables false
open Go.RowKit
/-- the Op of a word; nothing: 0 -/
def opR (x : ByteArray) : Int := if 1 ≤ opN x then opN x else 0
theorem opR_hit {x : ByteArray} {k : Int} (h1 : 1 ≤ k) (h2 : k ≤ 40) (h : wordC k = x) : opR x = k := by
  have := op_of k h1 h2
  rw [h] at this
  unfold opR
  rw [this, if_pos h1]
theorem opR_miss {x : ByteArray} (h : ∀ j : Int, 1 ≤ j → j ≤ 40 → wordC j ≠ x) : opR x = 0 := by
  unfold opR
  split
  · rename_i h1
    have h2 := op_word h1
    exact absurd h2.2 (h _ h1 h2.1)
  · rfl
theorem beq_text {a b : ByteArray} : (a.toList == b.toList) = decide (a = b) := by
  rw [Bool.eq_iff_iff]
  simp [toList_inj]
set_option maxRecDepth 100000 in
set_option maxHeartbeats 4000000 in
theorem rop_any (x : ByteArray) (w : World) : Calls Tryd.prog 79 #[.string x] w fun e w' => e = .returned (.int .i64 (opR x)) ∧ Below w.heap.size w w' := by
  go_enter Tryd.func79, Tryd.ntmps79
  go_wp2_with fail
  go_loopw [2, 3] (fun _ j wr => ∃ k : Nat, 1 ≤ k ∧ k ≤ 41 ∧ j = .int .i64 (k : Int) ∧ Hid (∀ j : Int, 1 ≤ j → j < k → wordC j ≠ x) ∧ Hid (Below w.heap.size w wr)) (fun _ j _ => 41 - (intOf j).toNat)
  case atStart => exact ⟨1, by omega, by omega, rfl, Lib.hid (fun j h1 h2 => by omega), Lib.hid (Below.refl _ _)⟩
  case round =>
    obtain ⟨k, hk1, hk2, rfl, hN, hB⟩ := hrel
    by_cases hlt : k ≤ 40
    · have WD := Lib.hid (fun W => word_any (k : Int) W)
      have h40 : (k : Int) ≤ 40 := by omega
      obtain ⟨wd, hwd⟩ : ∃ y, wordC (k : Int) = y := ⟨_, rfl⟩
      rw [hwd] at WD
      have hdec := beq_text (a := wd) (b := x)
      by_cases hx : wd = x
      · have hx1 : (wd.toList == x.toList) = true := by rw [hdec]; exact decide_eq_true hx
        have HV := Lib.hid (opR_hit (by omega) (by omega) (hwd.trans hx))
        clear hdec hx hwd
        go_wp2_with (first
          | (go_at_call 39; go_must (refine (WD.out _).mono ?_); rintro e w2 ⟨rfl, hb⟩; have HB := Lib.hid hb; clear hb)
          | fail)
        go_ret
        exact ⟨by rw [HV.out]; rfl, hB.out.trans (HB.out.mono hB.out.size)⟩
      · have hx1 : (wd.toList == x.toList) = false := by rw [hdec]; exact decide_eq_false hx
        have HX := Lib.hid hx
        have HWD := Lib.hid hwd
        clear hdec hx hwd
        go_wp2_with (first
          | (go_at_call 39; go_must (refine (WD.out _).mono ?_); rintro e w2 ⟨rfl, hb⟩; have HB := Lib.hid hb; clear hb)
          | fail)
        go_roundw
        case rel =>
          refine ⟨k + 1, by omega, by omega, by go_num, Lib.hid (fun j h1 h2 => ?_), Lib.hid (hB.out.trans (HB.out.mono hB.out.size))⟩
          by_cases hj : j = (k : Int)
          · subst hj; rw [HWD.out]; exact HX.out
          · exact hN.out j h1 (by omega)
        case measure => simp [intOf]; omega
    · have h40 : ¬ (k : Int) ≤ 40 := by omega
      go_wp2_with fail
      go_ret
      exact ⟨by rw [opR_miss (fun j h1 h2 => hN.out j h1 (by omega))]; rfl, hB.out⟩
set_option maxRecDepth 100000 in
set_option maxHeartbeats 4000000 in
theorem rins_any (x : ByteArray) (w : World) : Calls Tryd.prog 55 #[.string x] w fun e w' => e = .returned (.agg #[.int .i64 (opR x), .int .i64 0, .int .i64 0, .string ⟨#[]⟩]) ∧ Below w.heap.size w w' := by
  have OP := Lib.hid (fun W => rop_any x W)
  obtain ⟨op, hop⟩ : ∃ y, opR x = y := ⟨_, rfl⟩
  rw [hop] at OP ⊢
  clear hop
  go_enter Tryd.func55, Tryd.ntmps55
  go_wp2_with (first
    | (go_at_call 79; go_must (refine (OP.out _).mono ?_); rintro e w2 ⟨rfl, hb⟩; have B2 : Blk w2 w.heap.size 46 #[.int .i64 0, .int .i64 0, .int .i64 0, .string ⟨#[]⟩] := (Blk.new w _ _).below hb (by simp); have c0 : w2.cell? ⟨w.heap.size, 0, none⟩ = some (.int .i64 0) := B2.cell rfl; have c1 : w2.cell? ⟨w.heap.size, 1, none⟩ = some (.int .i64 0) := B2.cell rfl; have c2 : w2.cell? ⟨w.heap.size, 2, none⟩ = some (.int .i64 0) := B2.cell rfl; have c3 : w2.cell? ⟨w.heap.size, 3, none⟩ = some (.string ⟨#[]⟩) := B2.cell rfl; have f0 := B2.frozen 0; have f1 := B2.frozen 1; have f2 := B2.frozen 2; have f3 := B2.frozen 3; have K2 := Lib.hid (And.intro B2 (((Below.refl _ _).alloc (Nat.le_refl _) (.cells #[.int .i64 0, .int .i64 0, .int .i64 0, .string ⟨#[]⟩] 46)).trans (hb.mono (by simp)))); clear hb B2)
    | fail)
  generalize hz : World.setCell _ _ _ = wz
  have RZ : Blk wz w.heap.size 46 #[.int .i64 op, .int .i64 0, .int .i64 0, .string ⟨#[]⟩] := by rw [← hz]; have h := (((K2.out.1.set_ 0 (.int .i64 op)).set_ 1 (.int .i64 0)).set_ 2 (.int .i64 0)).set_ 3 (.string ⟨#[]⟩); simpa using h
  have LZ : Below w.heap.size w wz := by rw [← hz]; exact (((K2.out.2.setCell (p := ⟨w.heap.size, 0, none⟩) (Nat.le_refl _) _).setCell (p := ⟨w.heap.size, 1, none⟩) (Nat.le_refl _) _).setCell (p := ⟨w.heap.size, 2, none⟩) (Nat.le_refl _) _).setCell (p := ⟨w.heap.size, 3, none⟩) (Nat.le_refl _) _
  clear hz
  have q0 : wz.cell? ⟨w.heap.size, 0, none⟩ = some (.int .i64 op) := RZ.cell rfl
  have q1 : wz.cell? ⟨w.heap.size, 1, none⟩ = some (.int .i64 0) := RZ.cell rfl
  have q2 : wz.cell? ⟨w.heap.size, 2, none⟩ = some (.int .i64 0) := RZ.cell rfl
  have q3 : wz.cell? ⟨w.heap.size, 3, none⟩ = some (.string ⟨#[]⟩) := RZ.cell rfl
  refine bodyPost_ret (v := .agg #[.int .i64 op, .int .i64 0, .int .i64 0, .string ⟨#[]⟩]) (by simp [results, Tryd.results55, go_sem, q0, q1, q2, q3]) rfl ?_
  exact ⟨rfl, LZ⟩
end Go.Proofs.YtdkoafmgenbkbaaDoor
namespace Go.Proofs.YtdkoafmgenbkbaaDoor
set_option linter.unusedSimpArgs false
set_option linter.unusedVariables false
open Go.RowKit
/-- a Kind's Op, of those that have a word of their own -/
def opK (k : Nat) : Int := if 31 ≤ k ∧ k ≤ 34 then k + 4 else sameN k
def wordK (k : Nat) : ByteArray := if k = 1 ∨ k = 2 ∨ k = 7 then ⟨#[]⟩ else wordC (opK k)
set_option maxRecDepth 100000 in
set_option maxHeartbeats 4000000 in
theorem rkind_any (k : Nat) (hk : (1 ≤ k ∧ k ≤ 26) ∨ k = 29 ∨ (31 ≤ k ∧ k ≤ 34)) (w : World) : Calls Tryd.prog 56 #[.int .i64 (k : Int)] w fun e w' => e = .returned (.string (wordK k)) ∧ Quiet w w' := by
  rcases (by omega : k = 1 ∨ k = 2 ∨ k = 7 ∨ k = 3 ∨ k = 4 ∨ k = 5 ∨ k = 6 ∨ k = 8 ∨ k = 9 ∨ k = 10 ∨ k = 11 ∨ k = 12 ∨ k = 13 ∨ k = 14 ∨ k = 15 ∨ k = 16 ∨ k = 17 ∨ k = 18 ∨ k = 19 ∨ k = 20 ∨ k = 21 ∨ k = 22 ∨ k = 23 ∨ k = 24 ∨ k = 25 ∨ k = 26 ∨ k = 29 ∨ k = 31 ∨ k = 32 ∨ k = 33 ∨ k = 34) with rfl | rfl | rfl | rfl | rfl | rfl | rfl | rfl | rfl | rfl | rfl | rfl | rfl | rfl | rfl | rfl | rfl | rfl | rfl | rfl | rfl | rfl | rfl | rfl | rfl | rfl | rfl | rfl | rfl | rfl | rfl
  · rw [show wordK 1 = ⟨#[]⟩ from rfl]
    clear hk
    go_enter Tryd.func56, Tryd.ntmps56
    go_wp2_with fail
    go_ret
    exact ⟨rfl, Quiet.refl _⟩
  · rw [show wordK 2 = ⟨#[]⟩ from rfl]
    clear hk
    go_enter Tryd.func56, Tryd.ntmps56
    go_wp2_with fail
    go_ret
    exact ⟨rfl, Quiet.refl _⟩
  · rw [show wordK 7 = ⟨#[]⟩ from rfl]
    clear hk
    go_enter Tryd.func56, Tryd.ntmps56
    go_wp2_with fail
    go_ret
    exact ⟨rfl, Quiet.refl _⟩
  · rw [show wordK 3 = ⟨#[116, 114, 117, 101]⟩ from rfl]
    clear hk
    go_enter Tryd.func56, Tryd.ntmps56
    go_wp2_with fail
    go_ret
    exact ⟨rfl, Quiet.refl _⟩
  · rw [show wordK 4 = ⟨#[102, 97, 108, 115, 101]⟩ from rfl]
    clear hk
    go_enter Tryd.func56, Tryd.ntmps56
    go_wp2_with fail
    go_ret
    exact ⟨rfl, Quiet.refl _⟩
  · rw [show wordK 5 = ⟨#[115, 101, 108, 102]⟩ from rfl]
    clear hk
    go_enter Tryd.func56, Tryd.ntmps56
    go_wp2_with fail
    go_ret
    exact ⟨rfl, Quiet.refl _⟩
  · rw [show wordK 6 = ⟨#[110, 111, 110, 101]⟩ from rfl]
    clear hk
    go_enter Tryd.func56, Tryd.ntmps56
    go_wp2_with fail
    go_ret
    exact ⟨rfl, Quiet.refl _⟩
  · rw [show wordK 8 = ⟨#[112, 114, 111, 112]⟩ from rfl]
    clear hk
    go_enter Tryd.func56, Tryd.ntmps56
    go_wp2_with fail
    go_ret
    exact ⟨rfl, Quiet.refl _⟩
  · rw [show wordK 9 = ⟨#[107, 105, 100, 115]⟩ from rfl]
    clear hk
    go_enter Tryd.func56, Tryd.ntmps56
    go_wp2_with fail
    go_ret
    exact ⟨rfl, Quiet.refl _⟩
  · rw [show wordK 10 = ⟨#[114, 101, 102]⟩ from rfl]
    clear hk
    go_enter Tryd.func56, Tryd.ntmps56
    go_wp2_with fail
    go_ret
    exact ⟨rfl, Quiet.refl _⟩
  · rw [show wordK 11 = ⟨#[112, 97, 114, 101, 110, 116]⟩ from rfl]
    clear hk
    go_enter Tryd.func56, Tryd.ntmps56
    go_wp2_with fail
    go_ret
    exact ⟨rfl, Quiet.refl _⟩
  · rw [show wordK 12 = ⟨#[105, 115]⟩ from rfl]
    clear hk
    go_enter Tryd.func56, Tryd.ntmps56
    go_wp2_with fail
    go_ret
    exact ⟨rfl, Quiet.refl _⟩
  · rw [show wordK 13 = ⟨#[97, 108, 108]⟩ from rfl]
    clear hk
    go_enter Tryd.func56, Tryd.ntmps56
    go_wp2_with fail
    go_ret
    exact ⟨rfl, Quiet.refl _⟩
  · rw [show wordK 14 = ⟨#[115, 105, 122, 101]⟩ from rfl]
    clear hk
    go_enter Tryd.func56, Tryd.ntmps56
    go_wp2_with fail
    go_ret
    exact ⟨rfl, Quiet.refl _⟩
  · rw [show wordK 15 = ⟨#[102, 105, 114, 115, 116]⟩ from rfl]
    clear hk
    go_enter Tryd.func56, Tryd.ntmps56
    go_wp2_with fail
    go_ret
    exact ⟨rfl, Quiet.refl _⟩
  · rw [show wordK 16 = ⟨#[115, 104, 111, 119]⟩ from rfl]
    clear hk
    go_enter Tryd.func56, Tryd.ntmps56
    go_wp2_with fail
    go_ret
    exact ⟨rfl, Quiet.refl _⟩
  · rw [show wordK 17 = ⟨#[99, 111, 110, 99, 101, 112, 116]⟩ from rfl]
    clear hk
    go_enter Tryd.func56, Tryd.ntmps56
    go_wp2_with fail
    go_ret
    exact ⟨rfl, Quiet.refl _⟩
  · rw [show wordK 18 = ⟨#[105, 100]⟩ from rfl]
    clear hk
    go_enter Tryd.func56, Tryd.ntmps56
    go_wp2_with fail
    go_ret
    exact ⟨rfl, Quiet.refl _⟩
  · rw [show wordK 19 = ⟨#[114, 101, 97, 100]⟩ from rfl]
    clear hk
    go_enter Tryd.func56, Tryd.ntmps56
    go_wp2_with fail
    go_ret
    exact ⟨rfl, Quiet.refl _⟩
  · rw [show wordK 20 = ⟨#[97, 100, 100]⟩ from rfl]
    clear hk
    go_enter Tryd.func56, Tryd.ntmps56
    go_wp2_with fail
    go_ret
    exact ⟨rfl, Quiet.refl _⟩
  · rw [show wordK 21 = ⟨#[115, 117, 98]⟩ from rfl]
    clear hk
    go_enter Tryd.func56, Tryd.ntmps56
    go_wp2_with fail
    go_ret
    exact ⟨rfl, Quiet.refl _⟩
  · rw [show wordK 22 = ⟨#[109, 117, 108]⟩ from rfl]
    clear hk
    go_enter Tryd.func56, Tryd.ntmps56
    go_wp2_with fail
    go_ret
    exact ⟨rfl, Quiet.refl _⟩
  · rw [show wordK 23 = ⟨#[101, 113]⟩ from rfl]
    clear hk
    go_enter Tryd.func56, Tryd.ntmps56
    go_wp2_with fail
    go_ret
    exact ⟨rfl, Quiet.refl _⟩
  · rw [show wordK 24 = ⟨#[110, 101]⟩ from rfl]
    clear hk
    go_enter Tryd.func56, Tryd.ntmps56
    go_wp2_with fail
    go_ret
    exact ⟨rfl, Quiet.refl _⟩
  · rw [show wordK 25 = ⟨#[108, 116]⟩ from rfl]
    clear hk
    go_enter Tryd.func56, Tryd.ntmps56
    go_wp2_with fail
    go_ret
    exact ⟨rfl, Quiet.refl _⟩
  · rw [show wordK 26 = ⟨#[108, 101]⟩ from rfl]
    clear hk
    go_enter Tryd.func56, Tryd.ntmps56
    go_wp2_with fail
    go_ret
    exact ⟨rfl, Quiet.refl _⟩
  · rw [show wordK 29 = ⟨#[110, 111, 116]⟩ from rfl]
    clear hk
    go_enter Tryd.func56, Tryd.ntmps56
    go_wp2_with fail
    go_ret
    exact ⟨rfl, Quiet.refl _⟩
  · rw [show wordK 31 = ⟨#[97, 110, 121]⟩ from rfl]
    clear hk
    go_enter Tryd.func56, Tryd.ntmps56
    go_wp2_with fail
    go_ret
    exact ⟨rfl, Quiet.refl _⟩
  · rw [show wordK 32 = ⟨#[101, 118, 101, 114, 121]⟩ from rfl]
    clear hk
    go_enter Tryd.func56, Tryd.ntmps56
    go_wp2_with fail
    go_ret
    exact ⟨rfl, Quiet.refl _⟩
  · rw [show wordK 33 = ⟨#[111, 110, 108, 121]⟩ from rfl]
    clear hk
    go_enter Tryd.func56, Tryd.ntmps56
    go_wp2_with fail
    go_ret
    exact ⟨rfl, Quiet.refl _⟩
  · rw [show wordK 34 = ⟨#[115, 117, 109]⟩ from rfl]
    clear hk
    go_enter Tryd.func56, Tryd.ntmps56
    go_wp2_with fail
    go_ret
    exact ⟨rfl, Quiet.refl _⟩
set_option maxRecDepth 100000 in
set_option maxHeartbeats 4000000 in
theorem rloop_any (k : Int) (w : World) : Calls Tryd.prog 59 #[.int .i64 k] w fun e w' => e = .returned (.bool (decide (31 ≤ k ∧ k ≤ 34))) ∧ Quiet w w' := by
  by_cases h1 : 31 ≤ k
  · have d1 : decide (31 ≤ k) = true := by simp; omega
    by_cases h2 : k ≤ 34
    · have d2 : decide (k ≤ 34) = true := by simp; omega
      have hv : decide (31 ≤ k ∧ k ≤ 34) = true := by simp; omega
      rw [hv]
      clear hv h1 h2
      go_enter Tryd.func59, Tryd.ntmps59
      go_wp2_with fail
      go_ret
      exact ⟨rfl, Quiet.refl _⟩
    · have d2 : decide (k ≤ 34) = false := by simp; omega
      have hv : decide (31 ≤ k ∧ k ≤ 34) = false := by simp; omega
      rw [hv]
      clear hv h1 h2
      go_enter Tryd.func59, Tryd.ntmps59
      go_wp2_with fail
      go_ret
      exact ⟨rfl, Quiet.refl _⟩
  · have d1 : decide (31 ≤ k) = false := by simp; omega
    have hv : decide (31 ≤ k ∧ k ≤ 34) = false := by simp; omega
    rw [hv]
    clear hv h1
    go_enter Tryd.func59, Tryd.ntmps59
    go_wp2_with fail
    go_ret
    exact ⟨rfl, Quiet.refl _⟩
theorem opR_word {op : Int} (h1 : 1 ≤ op) (h2 : op ≤ 40) : opR (wordC op) = op := opR_hit h1 h2 rfl
/-- an instruction of a known word -/
theorem rins_op (op : Int) (h1 : 1 ≤ op) (h2 : op ≤ 40) (w : World) : Calls Tryd.prog 55 #[.string (wordC op)] w fun e w' => e = .returned (.agg #[.int .i64 op, .int .i64 0, .int .i64 0, .string ⟨#[]⟩]) ∧ Below w.heap.size w w' := by
  have h := rins_any (wordC op) w
  rw [opR_word h1 h2] at h
  exact h
end Go.Proofs.YtdkoafmgenbkbaaDoor
namespace Go.Proofs.YtdkoafmgenbkbaaDoor
set_option linter.unusedSimpArgs false
set_option linter.unusedVariables false
/-- of a node's parts the last that is 'a': which node, the how manyth -/
def kidUp (a : Int) (i : Nat) : Nat → List Int → Int × Int → Int × Int
  | _, [], acc => acc
  | k, x :: xs, acc => kidUp a i (k + 1) xs (if x = a then ((i : Int), (k : Int)) else acc)
def upTo (l : List ND) (a : Int) : Nat → Int × Int
  | 0 => (-1, 0)
  | i + 1 => kidUp a i 0 (match l[i]? with | some d => d.kids | none => []) (upTo l a i)
def upN (l : List ND) (a : Int) : Int × Int := upTo l a a.toNat
def isLoop (l : List ND) (u : Int × Int) : Bool := decide (0 ≤ u.1) && decide (u.2 = 1) && (match l[u.1.toNat]? with | some d => decide (31 ≤ d.kind ∧ d.kind ≤ 34) | none => false)
def hasName (l : List ND) (u : Int × Int) (s : List Nat) : Bool := match l[u.1.toNat]? with | some d => decide (d.text = s) | none => false
def loopsN (l : List ND) : Nat → Int → List Nat → Int → Int
  | 0, _, _, _ => -1
  | f + 1, a, s, n => if a < 0 then -1 else if isLoop l (upN l a) = true then (if hasName l (upN l a) s = true then n else loopsN l f (upN l a).1 s (n + 1)) else loopsN l f (upN l a).1 s n
theorem kidUp_snoc {a : Int} {i : Nat} : ∀ (xs : List Int) (k : Nat) (x : Int) (acc : Int × Int), kidUp a i k (xs ++ [x]) acc = if x = a then ((i : Int), ((k + xs.length : Nat) : Int)) else kidUp a i k xs acc
  | [], k, x, acc => rfl
  | y :: ys, k, x, acc => by
    show kidUp a i (k + 1) (ys ++ [x]) _ = _
    rw [kidUp_snoc ys]
    rw [show k + 1 + ys.length = k + (y :: ys).length by simp; omega]
    rfl
theorem kidUp_cases {a : Int} {i : Nat} : ∀ (xs : List Int) (k : Nat) (acc : Int × Int), kidUp a i k xs acc = acc ∨ ∃ j : Nat, k ≤ j ∧ j < k + xs.length ∧ kidUp a i k xs acc = ((i : Int), (j : Int))
  | [], k, acc => .inl rfl
  | y :: ys, k, acc => by
    show kidUp a i (k + 1) ys _ = acc ∨ ∃ j : Nat, k ≤ j ∧ j < k + (y :: ys).length ∧ kidUp a i (k + 1) ys _ = _
    rcases kidUp_cases ys (k + 1) (if y = a then ((i : Int), (k : Int)) else acc) with h | ⟨j, h1, h2, h3⟩
    · rw [h]
      split
      · exact .inr ⟨k, Nat.le_refl _, by simp, rfl⟩
      · exact .inl rfl
    · exact .inr ⟨j, by omega, by simp; omega, h3⟩
theorem upTo_lt {l : List ND} {a : Int} : ∀ i, -1 ≤ (upTo l a i).1 ∧ (upTo l a i).1 < i
  | 0 => by simp [upTo]
  | i + 1 => by
    have h := upTo_lt (l := l) (a := a) i
    simp only [upTo]
    rcases kidUp_cases (a := a) (i := i) (match l[i]? with | some d => d.kids | none => []) 0 (upTo l a i) with h2 | ⟨j, _, _, h2⟩
    · rw [h2]; omega
    · rw [h2]; simp; omega
theorem upN_lt {l : List ND} {a : Int} (h : 0 ≤ a) : -1 ≤ (upN l a).1 ∧ (upN l a).1 < a := by
  have := upTo_lt (l := l) (a := a) a.toNat
  unfold upN
  omega
theorem trS_pos : ∀ t : Tr, 1 ≤ t.size
  | .node k s n ks => by simp only [Tr.size]; omega
theorem places_in : ∀ (ts : List Tr) (q x : Nat), x ∈ placesL ts q → q ≤ x ∧ x < q + sizeL ts
  | [], q, x, h => by cases h
  | t :: ts, q, x, h => by
    have ht := trS_pos t
    simp only [placesL, List.mem_cons] at h
    simp only [sizeL]
    rcases h with rfl | h
    · omega
    · have := places_in ts _ x h
      omega
mutual
theorem stands_kids {l : List ND} : ∀ (t : Tr) (p : Nat), Stands l t p → ∀ i d, p ≤ i → i < p + t.size → l[i]? = some d → ∀ x ∈ d.kids, (i : Int) < x ∧ x < ((p + t.size : Nat) : Int)
  | .node k s n ks, p, h, i, d, h1, h2, hd, x, hx => by
    obtain ⟨e1, e2⟩ := stands_node h
    simp only [Tr.size] at h2 ⊢
    by_cases hi : i = p
    · subst hi
      rw [e1] at hd
      injection hd with hd
      subst hd
      obtain ⟨y, hy, rfl⟩ := List.mem_map.1 hx
      have := places_in ks _ y hy
      omega
    · have := standsL_kids ks (p + 1) e2 i d (by omega) (by omega) hd x hx
      omega
theorem standsL_kids {l : List ND} : ∀ (ts : List Tr) (p : Nat), StandsL l ts p → ∀ i d, p ≤ i → i < p + sizeL ts → l[i]? = some d → ∀ x ∈ d.kids, (i : Int) < x ∧ x < ((p + sizeL ts : Nat) : Int)
  | [], p, h, i, d, h1, h2, hd, x, hx => by simp only [sizeL] at h2; omega
  | t :: ts, p, h, i, d, h1, h2, hd, x, hx => by
    obtain ⟨e1, e2⟩ := standsL_cons h
    simp only [sizeL] at h2 ⊢
    by_cases hi : i < p + t.size
    · have := stands_kids t p e1 i d h1 hi hd x hx
      omega
    · have := standsL_kids ts (p + t.size) e2 i d (by omega) (by omega) hd x hx
      omega
end
theorem kidUp_none {a : Int} {i : Nat} : ∀ (xs : List Int) (k : Nat) (acc : Int × Int), (∀ x ∈ xs, x ≠ a) → kidUp a i k xs acc = acc
  | [], k, acc, h => rfl
  | y :: ys, k, acc, h => by
    show kidUp a i (k + 1) ys _ = acc
    rw [if_neg (h y List.mem_cons_self)]
    exact kidUp_none ys _ acc fun x hx => h x (List.mem_cons_of_mem _ hx)
theorem kidUp_hit {a : Int} {i : Nat} : ∀ (xs : List Int) (k j : Nat) (acc : Int × Int), xs[j]? = some a → (∀ j' x, j < j' → xs[j']? = some x → x ≠ a) → kidUp a i k xs acc = ((i : Int), ((k + j : Nat) : Int))
  | [], k, j, acc, h, _ => by cases h
  | y :: ys, k, 0, acc, h, h2 => by
    simp at h
    subst h
    show kidUp y i (k + 1) ys _ = _
    rw [if_pos rfl, kidUp_none ys _ _ fun x hx => ?_]
    · rfl
    · obtain ⟨j', hj'⟩ := List.mem_iff_getElem?.1 hx
      exact h2 (j' + 1) x (by omega) hj'
  | y :: ys, k, j + 1, acc, h, h2 => by
    show kidUp a i (k + 1) ys _ = _
    rw [kidUp_hit ys (k + 1) j _ (by simpa using h) (fun j' x hj hx => h2 (j' + 1) x (by omega) (by simpa using hx))]
    rw [show k + 1 + j = k + (j + 1) by omega]
theorem upTo_same {l : List ND} {a : Int} {p : Nat} : ∀ q, p ≤ q → (∀ i d, p ≤ i → i < q → l[i]? = some d → ∀ x ∈ d.kids, x ≠ a) → upTo l a q = upTo l a p
  | 0, h, _ => by rw [show p = 0 by omega]
  | q + 1, h, hn => by
    by_cases e : p = q + 1
    · rw [e]
    · simp only [upTo]
      rw [← upTo_same q (by omega) (fun i d h1 h2 => hn i d h1 (by omega))]
      refine kidUp_none _ _ _ fun x hx => ?_
      rcases hq : l[q]? with _ | d
      · rw [hq] at hx; cases hx
      · rw [hq] at hx; exact hn q d (by omega) (by omega) hq x hx
theorem places_lt : ∀ (ts : List Tr) (p j j' q q' : Nat), (placesL ts p)[j]? = some q → (placesL ts p)[j']? = some q' → j < j' → q < q'
  | [], p, j, j', q, q', h, _, _ => by cases h
  | t :: ts, p, j, j', q, q', h, h', hj => by
    have ht := trS_pos t
    obtain ⟨m, rfl⟩ : ∃ m, j' = m + 1 := ⟨j' - 1, by omega⟩
    simp only [placesL, List.getElem?_cons_succ] at h'
    cases j with
    | zero =>
      simp only [placesL, List.getElem?_cons_zero, Option.some.injEq] at h
      have := places_in ts _ q' (List.mem_iff_getElem?.2 ⟨m, h'⟩)
      omega
    | succ j =>
      simp only [placesL, List.getElem?_cons_succ] at h
      exact places_lt ts _ j m q q' h h' (by omega)
theorem standsL_before {l : List ND} : ∀ (ts : List Tr) (p j q : Nat), StandsL l ts p → (placesL ts p)[j]? = some q → ∀ i d, p ≤ i → i < q → l[i]? = some d → ∀ x ∈ d.kids, x < (q : Int)
  | [], p, j, q, h, hq, i, d, h1, h2, hd, x, hx => by cases hq
  | t :: ts, p, j, q, h, hq, i, d, h1, h2, hd, x, hx => by
    obtain ⟨e1, e2⟩ := standsL_cons h
    cases j with
    | zero => simp only [placesL, List.getElem?_cons_zero, Option.some.injEq] at hq; omega
    | succ j =>
      simp only [placesL, List.getElem?_cons_succ] at hq
      have hin := places_in ts _ q (List.mem_iff_getElem?.2 ⟨j, hq⟩)
      by_cases hi : i < p + t.size
      · have := stands_kids t p e1 i d h1 hi hd x hx
        omega
      · exact standsL_before ts _ j q e2 hq i d (by omega) h2 hd x hx
/-- a part's node, and the how manyth part it is -/
theorem upN_kid {l : List ND} {k : Nat} {s : List Nat} {n : Int} {ks : List Tr} {p j q : Nat} (h : Stands l (.node k s n ks) p) (hq : (placesL ks (p + 1))[j]? = some q) : upN l (q : Int) = ((p : Int), (j : Int)) := by
  obtain ⟨e1, e2⟩ := stands_node h
  have hin := places_in ks _ q (List.mem_iff_getElem?.2 ⟨j, hq⟩)
  unfold upN
  rw [show ((q : Int)).toNat = q by omega]
  rw [upTo_same (p := p + 1) q (by omega) (fun i d h1 h2 hd x hx => by have := standsL_before ks _ j q e2 hq i d h1 h2 hd x hx; omega)]
  simp only [upTo, e1]
  rw [kidUp_hit _ 0 j _ (by rw [List.getElem?_map, hq]; rfl) (fun j' x hj hx => ?_), Nat.zero_add]
  rw [List.getElem?_map] at hx
  obtain ⟨q', hq', rfl⟩ := Option.map_eq_some_iff.1 hx
  have := places_lt ks _ j j' q q' hq hq' hj
  omega
/-- under these loops' names -/
inductive Under (l : List ND) : List (List Nat) → Nat → Prop
  | root : Under l [] 0
  | kid {vs : List (List Nat)} {p q : Nat} {j : Int} : Under l vs p → p < q → upN l (q : Int) = ((p : Int), j) → isLoop l ((p : Int), j) = false → Under l vs q
  | body {vs : List (List Nat)} {p q : Nat} {j : Int} {d : ND} : Under l vs p → p < q → upN l (q : Int) = ((p : Int), j) → isLoop l ((p : Int), j) = true → l[p]? = some d → Under l (vs ++ [d.text]) q
theorem loopsN_neg {l : List ND} {f : Nat} {s : List Nat} {n : Int} : loopsN l f (-1) s n = -1 := by
  cases f with
  | zero => rfl
  | succ f => simp [loopsN]
theorem loops_law {l : List ND} {vs : List (List Nat)} {p : Nat} (h : Under l vs p) (s : List Nat) : ∀ (f : Nat) (n : Int), p < f → loopsN l f (p : Int) s n = match vs.reverse.findIdx? (fun x => decide (x = s)) with | some i => n + i | none => -1 := by
  induction h with
  | root =>
    intro f n hf
    obtain ⟨f, rfl⟩ : ∃ g, f = g + 1 := ⟨f - 1, by omega⟩
    have hu : upN l ((0 : Nat) : Int) = (-1, 0) := rfl
    simp only [loopsN]
    rw [hu]
    simp [isLoop, loopsN_neg]
  | @kid vs p q j h1 hpq hu hl ih =>
    intro f n hf
    obtain ⟨f, rfl⟩ : ∃ g, f = g + 1 := ⟨f - 1, by omega⟩
    simp only [loopsN]
    rw [if_neg (by omega), hu, hl, if_neg (by simp)]
    exact ih f n (by omega)
  | @body vs p q j d h1 hpq hu hl hd ih =>
    intro f n hf
    obtain ⟨f, rfl⟩ : ∃ g, f = g + 1 := ⟨f - 1, by omega⟩
    simp only [loopsN]
    rw [if_neg (by omega), hu, hl, if_pos rfl]
    have hn : hasName l ((p : Int), j) s = decide (d.text = s) := by unfold hasName; simp only [Int.toNat_natCast]; rw [hd]
    rw [hn, List.reverse_append, List.reverse_singleton, List.singleton_append, List.findIdx?_cons]
    by_cases e : d.text = s
    · simp [e]
    · rw [if_neg (by simpa using e), ih f (n + 1) (by omega)]
      simp only [decide_eq_false e]
      rcases vs.reverse.findIdx? (fun x => decide (x = s)) with _ | i
      · simp
      · show n + 1 + (i : Int) = n + ((i + 1 : Nat) : Int)
        omega
end Go.Proofs.YtdkoafmgenbkbaaDoor
namespace Go.Proofs.YtdkoafmgenbkbaaDoor
set_option linter.unusedSimpArgs false
set_option linter.unusedVariables false
open Go.RowKit
theorem rins_step (w : World) : Calls Tryd.prog 55 #[.string ⟨#[115, 116, 101, 112]⟩] w fun e w' => e = .returned (.agg #[.int .i64 1, .int .i64 0, .int .i64 0, .string ⟨#[]⟩]) ∧ Below w.heap.size w w' := rins_op 1 (by decide) (by decide) w
theorem rins_int (w : World) : Calls Tryd.prog 55 #[.string ⟨#[105, 110, 116]⟩] w fun e w' => e = .returned (.agg #[.int .i64 2, .int .i64 0, .int .i64 0, .string ⟨#[]⟩]) ∧ Below w.heap.size w w' := rins_op 2 (by decide) (by decide) w
theorem rins_text (w : World) : Calls Tryd.prog 55 #[.string ⟨#[116, 101, 120, 116]⟩] w fun e w' => e = .returned (.agg #[.int .i64 3, .int .i64 0, .int .i64 0, .string ⟨#[]⟩]) ∧ Below w.heap.size w w' := rins_op 3 (by decide) (by decide) w
theorem rins_free (w : World) : Calls Tryd.prog 55 #[.string ⟨#[102, 114, 101, 101]⟩] w fun e w' => e = .returned (.agg #[.int .i64 9, .int .i64 0, .int .i64 0, .string ⟨#[]⟩]) ∧ Below w.heap.size w w' := rins_op 9 (by decide) (by decide) w
theorem rins_load (w : World) : Calls Tryd.prog 55 #[.string ⟨#[108, 111, 97, 100]⟩] w fun e w' => e = .returned (.agg #[.int .i64 8, .int .i64 0, .int .i64 0, .string ⟨#[]⟩]) ∧ Below w.heap.size w w' := rins_op 8 (by decide) (by decide) w
theorem rins_and (w : World) : Calls Tryd.prog 55 #[.string ⟨#[97, 110, 100]⟩] w fun e w' => e = .returned (.agg #[.int .i64 30, .int .i64 0, .int .i64 0, .string ⟨#[]⟩]) ∧ Below w.heap.size w w' := rins_op 30 (by decide) (by decide) w
theorem rins_or (w : World) : Calls Tryd.prog 55 #[.string ⟨#[111, 114]⟩] w fun e w' => e = .returned (.agg #[.int .i64 31, .int .i64 0, .int .i64 0, .string ⟨#[]⟩]) ∧ Below w.heap.size w w' := rins_op 31 (by decide) (by decide) w
theorem rins_truth (w : World) : Calls Tryd.prog 55 #[.string ⟨#[116, 114, 117, 116, 104]⟩] w fun e w' => e = .returned (.agg #[.int .i64 32, .int .i64 0, .int .i64 0, .string ⟨#[]⟩]) ∧ Below w.heap.size w w' := rins_op 32 (by decide) (by decide) w
theorem rins_unless (w : World) : Calls Tryd.prog 55 #[.string ⟨#[117, 110, 108, 101, 115, 115]⟩] w fun e w' => e = .returned (.agg #[.int .i64 33, .int .i64 0, .int .i64 0, .string ⟨#[]⟩]) ∧ Below w.heap.size w w' := rins_op 33 (by decide) (by decide) w
theorem rins_jump (w : World) : Calls Tryd.prog 55 #[.string ⟨#[106, 117, 109, 112]⟩] w fun e w' => e = .returned (.agg #[.int .i64 34, .int .i64 0, .int .i64 0, .string ⟨#[]⟩]) ∧ Below w.heap.size w w' := rins_op 34 (by decide) (by decide) w
theorem rins_next (w : World) : Calls Tryd.prog 55 #[.string ⟨#[110, 101, 120, 116]⟩] w fun e w' => e = .returned (.agg #[.int .i64 39, .int .i64 0, .int .i64 0, .string ⟨#[]⟩]) ∧ Below w.heap.size w w' := rins_op 39 (by decide) (by decide) w
theorem rins_take (w : World) : Calls Tryd.prog 55 #[.string ⟨#[116, 97, 107, 101]⟩] w fun e w' => e = .returned (.agg #[.int .i64 40, .int .i64 0, .int .i64 0, .string ⟨#[]⟩]) ∧ Below w.heap.size w w' := rins_op 40 (by decide) (by decide) w
/-- what is known ahead of a node -/
structure RPre (l : List ND) (lv : Value) (W0 : World) (f : Nat) (t : Tr) (p : Nat) (vs : List (List Nat)) (m : Int) (W : World) : Prop where
  hs : SlR W0 W0.heap.size 4 (ND.Is W0 W0.heap.size) lv l
  hok : ∀ d ∈ l, NdOk d
  hl : l.length ≤ 256
  good : t.Good
  deep : t.deep ≤ f
  st : Stands l t p
  un : Under l vs p
  hw : Below W0.heap.size W0 W
  m1 : 1 ≤ m
  mf : m + f ≤ 1000
  vlen : vs.length + f ≤ 1000
/-- what code comes to -/
def RCodeK (W : World) (o : List Ins) (e : Ending) (w' : World) : Prop := ∃ ov, e = .returned ov ∧ Own1 w' W.heap.size 46 4 Ins.Is ov o ∧ Below W.heap.size W w'
theorem rcodeK_of {W w' : World} {o : List Ins} {ov : Value} (h : Own1 w' W.heap.size 46 4 Ins.Is ov o) (k : Below W.heap.size W w') : RCodeK W o (.returned ov) w' := ⟨_, rfl, h, k⟩
def RCodeIs (l : List ND) (lv : Value) (W0 : World) (f : Nat) : Prop := ∀ (t : Tr) (p : Nat) (vs : List (List Nat)) (m : Int) (W : World), RPre l lv W0 f t p vs m W →
  Calls Tryd.prog 30 #[.agg #[lv], .int .i64 (p : Int), .int .i64 m] W (RCodeK W (cR f t vs m))
/-- the boxes of the expression and of the node -/
structure CSt (W w : World) (lv : Value) (be bx : Nat) (xs : Array Value) (B : Nat) : Prop where
  bel : Below W.heap.size W w
  eb : Blk w be 38 #[lv]
  xb : Blk w bx 80 xs
  he : W.heap.size ≤ be
  hx : W.heap.size ≤ bx
  le : be < B
  lx : bx < B
  lB : B ≤ w.heap.size
section
variable {W w w' : World} {lv : Value} {be bx : Nat} {xs : Array Value} {B : Nat}
theorem CSt.below (h : CSt W w lv be bx xs B) {C : Nat} (hb : Below C w w') (hC : B ≤ C) : CSt W w' lv be bx xs B :=
  ⟨h.bel.trans (hb.mono (by have := h.he; have := h.le; omega)), h.eb.below hb (by have := h.le; omega), h.xb.below hb (by have := h.lx; omega), h.he, h.hx, h.le, h.lx, Nat.le_trans h.lB hb.size⟩
theorem CSt.call (h : CSt W w lv be bx xs B) (hb : Below w.heap.size w w') : CSt W w' lv be bx xs B := h.below hb h.lB
theorem CSt.alloc (h : CSt W w lv be bx xs B) (o : Obj) : CSt W (w.alloc o) lv be bx xs B := h.below ((Below.refl w.heap.size w).alloc (Nat.le_refl _) o) h.lB
theorem CSt.drewN (h : CSt W w lv be bx xs B) (n : Nat) : CSt W (w.drewN n) lv be bx xs B := h.below (below_drewN (Below.refl w.heap.size w) n) h.lB
theorem CSt.drew (h : CSt W w lv be bx xs B) : CSt W w.drew lv be bx xs B := h.below ((Below.refl w.heap.size w).drew) h.lB
theorem CSt.set_ (h : CSt W w lv be bx xs B) {g : Nat} (hg : B ≤ g) (i : Nat) (u : Value) : CSt W (w.setCell ⟨g, i, none⟩ u) lv be bx xs B := h.below ((Below.refl B w).setCell (p := ⟨g, i, none⟩) hg u) (Nat.le_refl _)
theorem CSt.grown (h : CSt W w lv be bx xs B) {v : Value} {o : List Ins} (ho : Own1 w B 46 4 Ins.Is v o) (hgr : w.grownBy w' v.ownBlock) : CSt W w' lv be bx xs B :=
  h.below ((Below.refl B w).grown hgr h.lB (fun b hb => (ho.block b hb).1)) (Nat.le_refl _)
theorem CSt.wl (h : CSt W w lv be bx xs B) : W.heap.size ≤ B := by have := h.he; have := h.le; omega
end
/-- a row stays where another one grows -/
theorem Own1.keepG {α β : Type} {w w' : World} {base C size size' : Nat} {e e' : TypeId} {R : List Value → α → Prop} {R' : List Value → β → Prop} {v v' : Value} {l : List α} {l' : List β} (h : Own1 w base e size R v l) (h' : Own1 w C e' size' R' v' l') (hg : w.grownBy w' v'.ownBlock) (hlt : (∀ g, v.ownBlock = some g → g < C) ∨ (∀ g, v'.ownBlock = some g → g < base)) : Own1 w' base e size R v l :=
  h.apart hg fun g e1 e2 => by
    have h1 := (h.block g e1).1
    have h2 := (h'.block g e2.symm).1
    rcases hlt with h3 | h3
    · have := h3 g e1; omega
    · have := h3 g e2.symm; omega
/-- a node's parts: where they stand, under which names -/
theorem rkid {l : List ND} {k : Nat} {s : List Nat} {n : Int} {ks : List Tr} {p : Nat} {vs : List (List Nat)} (hst : Stands l (.node k s n ks) p) (hu : Under l vs p) {j : Nat} {a : Tr} (ha : ks[j]? = some a) :
    ∃ q : Nat, Stands l a q ∧ Under l (if j = 1 ∧ 31 ≤ k ∧ k ≤ 34 then vs ++ [s] else vs) q ∧ (placesL ks (p + 1))[j]? = some q := by
  obtain ⟨hd, hks⟩ := stands_node hst
  obtain ⟨q, hq, hs⟩ := stands_at hks ha
  have hup := upN_kid hst hq
  have hin := places_in ks _ q (List.mem_iff_getElem?.2 ⟨j, hq⟩)
  have hil : isLoop l ((p : Int), (j : Int)) = decide (j = 1 ∧ 31 ≤ k ∧ k ≤ 34) := by
    unfold isLoop
    simp only [Int.toNat_natCast]
    rw [hd]
    rw [Bool.eq_iff_iff]
    simp only [Bool.and_eq_true, decide_eq_true_eq]
    omega
  refine ⟨q, hs, ?_, hq⟩
  by_cases h : j = 1 ∧ 31 ≤ k ∧ k ≤ 34
  · rw [if_pos h]
    exact Under.body hu (by omega) hup (by rw [hil]; exact decide_eq_true h) hd
  · rw [if_neg h]
    exact Under.kid hu (by omega) hup (by rw [hil]; exact decide_eq_false h)
theorem rkid_cell {W0 : World} {p B : Nat} {ks : List Tr} {kb ko : Nat} {kn kc : Nat} (hkv : SlR W0 B 1 IsI (.slice (some ⟨kb, ko, none⟩) kn kc) ((placesL ks p).map fun n : Nat => (n : Int))) {j q : Nat} (hq : (placesL ks p)[j]? = some q) {w : World} (hb : Below B W0 w) : w.cell? ⟨kb, ko + j, none⟩ = some (.int .i64 (q : Int)) := by
  have hq' : ((placesL ks p).map fun n : Nat => (n : Int))[j]? = some (q : Int) := by rw [List.getElem?_map, hq]; rfl
  obtain ⟨b, off, x, e1, hbB, hxl, rfl, hx⟩ := (hkv.below hb).at_ hq'
  injection e1 with e1
  injection e1 with e1 e2
  subst e1 e2
  have x0 := hx 0 _ rfl
  simp only [Nat.add_zero, Nat.mul_one] at x0
  exact x0
/-- what is known ahead of a part -/
theorem RPre.kid {l : List ND} {lv : Value} {W0 : World} {f : Nat} {k : Nat} {s : List Nat} {n : Int} {ks : List Tr} {p : Nat} {vs : List (List Nat)} {m : Int} {W : World} (H : RPre l lv W0 (f + 1) (.node k s n ks) p vs m W) {j : Nat} {a : Tr} {q : Nat} (ha : ks[j]? = some a) (hq : Stands l a q) {vs' : List (List Nat)} (hu : Under l vs' q) (hv : vs'.length ≤ vs.length + 1) {m' : Int} (h1 : 1 ≤ m') (h2 : m' ≤ m + 1) {w' : World} (hb : Below W.heap.size W w') : RPre l lv W0 f a q vs' m' w' :=
  ⟨H.hs, H.hok, H.hl, good_at H.good.2 ha, by have := deep_at ha; have h2 := deep_one H.deep; omega, hq, hu, H.hw.trans (hb.mono H.hw.size), h1, by have := H.mf; omega, by have := H.vlen; omega⟩
theorem cR_len : ∀ (f : Nat) (t : Tr) (vs : List (List Nat)) (m : Int), (cR f t vs m).length ≤ 4 * t.size
  | 0, t, vs, m => by simp [cR]
  | f + 1, .node k s n ks, vs, m => by
    match ks with
    | [] => simp only [cR, Tr.size, sizeL, List.length_cons, List.length_nil]; omega
    | [a] =>
      have h1 := cR_len f a vs (m + 1)
      simp only [cR, Tr.size, sizeL, List.length_append, List.length_cons, List.length_nil]; omega
    | [a, b] =>
      have h1 := cR_len f a vs (m + 1)
      have h2 := cR_len f b vs 1
      have h3 := cR_len f b (vs ++ [s]) 1
      simp only [cR]
      split
      · simp only [thenN_len, Tr.size, sizeL, List.length_append, List.length_cons, List.length_nil]; omega
      · split
        · simp only [thenN_len, Tr.size, sizeL, List.length_append, List.length_cons, List.length_nil]; omega
        · simp only [thenN_len, Tr.size, sizeL, List.length_append, List.length_cons, List.length_nil]; omega
    | [a, b, c] =>
      have h1 := cR_len f a vs (m + 1)
      have h2 := cR_len f b vs 1
      have h3 := cR_len f c vs 1
      simp only [cR, thenN_len, Tr.size, sizeL, List.length_append, List.length_cons, List.length_nil]; omega
    | _ :: _ :: _ :: _ :: _ => simp only [cR, List.length_nil]; omega
theorem stands_size {l : List ND} {t : Tr} {p : Nat} (h : Stands l t p) : t.size ≤ l.length := by
  unfold Stands at h
  have := congrArg List.length h
  rw [nds_len, List.length_take, List.length_drop] at this
  omega
theorem rcode_ops {l : List ND} {lv : Value} {W0 : World} {f : Nat} {k : Nat} {s : List Nat} {n : Int} {ks : List Tr} {p : Nat} {vs : List (List Nat)} {m : Int} {W : World} (H : RPre l lv W0 (f + 1) (.node k s n ks) p vs m W) {j : Nat} {a : Tr} (ha : ks[j]? = some a) {vs' : List (List Nat)} (hv : vs'.length ≤ vs.length + 1) {m' : Int} (h1 : 1 ≤ m') (h2 : m' ≤ m + 1) : ∀ y ∈ cR f a vs' m', (1 ≤ y.op ∧ y.op ≤ 40) ∧ -1000000 ≤ y.arg ∧ y.arg ≤ 1000000 := by
  intro y hy
  have hb := cR_bound f a vs' m' (good_at H.good.2 ha) (by have := deep_at ha; have h2 := deep_one H.deep; omega) h1 y hy
  have hs := stands_size H.st
  have hl := H.hl
  have hz := sizeL_take ha
  have hc := cR_len f a vs' m'
  have hm := H.mf
  have hv2 := H.vlen
  simp only [Tr.size] at hs
  refine ⟨hb.1, by have := hb.2.1; omega, ?_⟩
  by_cases e : hasN y.op = 5
  · have := hb.2.2.1 e; omega
  · have := hb.2.2.2 e; omega
end Go.Proofs.YtdkoafmgenbkbaaDoor
namespace Go.Proofs.YtdkoafmgenbkbaaDoor
set_option linter.unusedSimpArgs false
set_option linter.unusedVariables false
open Go.RowKit
theorem Own1.stay {α : Type} {w w' : World} {lo size : Nat} {e : TypeId} {R : List Value → α → Prop} {v : Value} {l : List α} (h : Own1 w lo e size R v l) (hk : ∀ b, v.ownBlock = some b → b < w.heap.size → w'.heap[b]? = w.heap[b]?) : Own1 w' lo e size R v l := by
  obtain ⟨xs, h1, h2⟩ := h
  refine ⟨xs, ⟨h1.1, ?_⟩, h2⟩
  rcases h1.2 with r | ⟨g, cap, cur, r1, r2, r3, r4⟩
  · exact .inl r
  · have hg : g < w.heap.size := by
      rcases Nat.lt_or_ge g w.heap.size with hlt | hge
      · exact hlt
      · rw [Array.getElem?_eq_none hge] at r3; cases r3
    exact .inr ⟨g, cap, cur, r1, r2, (hk g (by rw [r1]; rfl) hg).trans r3, r4⟩
end Go.Proofs.YtdkoafmgenbkbaaDoor
namespace Go.Proofs.YtdkoafmgenbkbaaDoor
set_option linter.unusedSimpArgs false
set_option linter.unusedVariables false
open Go.RowKit
theorem take_snoc1 {α : Type} {l : List α} {j : Nat} {x : α} (h : l[j]? = some x) : l.take (j + 1) = l.take j ++ [x] := by
  rw [List.take_add_one, h]; rfl
/-- what stands in it, and that it may be written -/
theorem Own1.at00 {α : Type} {w : World} {base size n c : Nat} {e : TypeId} {R : List Value → α → Prop} {l : List α} {a : Option Addr} (h : Own1 w base e size R (.slice a n c) l) (hn : 0 < l.length) (hs : 0 < size) : ∃ g, a = some ⟨g, 0, none⟩ ∧ base ≤ g ∧ g < w.heap.size ∧ (∀ o, w.frozen? ⟨g, o, none⟩ = false) ∧ ∀ (k : Nat) (y : α), l[k]? = some y → ∃ x : List Value, x.length = size ∧ R x y ∧ ∀ (j : Nat) (u : Value), x[j]? = some u → w.cell? ⟨g, k * size + j, none⟩ = some u := by
  have hr := h.read hs
  have hb := h.block
  have hf := h.form
  obtain ⟨xs, h1, h2⟩ := h
  obtain ⟨g, rfl⟩ : ∃ g, a = some ⟨g, 0, none⟩ := by
    rcases h1.2 with ⟨h', h0⟩ | ⟨g', cap', cur, h', _⟩
    · omega
    · injection h' with e1; exact ⟨g', e1⟩
  have hg := hb g rfl
  refine ⟨g, rfl, hg.1, hg.2, fun o => ?_, fun k y hy => ?_⟩
  · obtain ⟨a', c', he⟩ := hf
    injection he with _ e2 e3
    subst e2
    exact h1.frozenAt o
  · obtain ⟨b, off, x, he, _, hx, hR, hc⟩ := hr.at_ hy
    injection he with he
    injection he with e1 e2
    subst e1 e2
    refine ⟨x, hx, hR, fun j u hu => ?_⟩
    have := hc j u hu
    rwa [Nat.zero_add] at this
section
variable {X : World} {B : Nat} {v : Value} {es : List (EN × Value)}
end
end Go.Proofs.YtdkoafmgenbkbaaDoor
namespace Go.Proofs.YtdkoafmgenbkbaaDoor
set_option linter.unusedSimpArgs false
set_option linter.unusedVariables false
open Go.RowKit
theorem info_enode : (Tryd.prog.info? 80).map (fun i => (i.zero, i.size, i.bytes)) = some (some (.agg #[.int .i64 0, .string .empty, .int .i64 0, .slice none 0 0]), 4, 56) := by kernel_rfl
theorem info_int : (Tryd.prog.info? 3).map (fun i => (i.zero, i.size, i.bytes)) = some (some (.int .i64 0), 1, 8) := by kernel_rfl
end Go.Proofs.YtdkoafmgenbkbaaDoor
namespace Go.Proofs.YtdkoafmgenbkbaaDoor
set_option linter.unusedSimpArgs false
set_option linter.unusedVariables false
open Go.RowKit
/-- a node's cells -/
def IsNDv : List Value → ND × Value → Prop := fun x p => x = [.int .i64 p.1.kind, .string (txt p.1.text), .int .i64 p.1.num, p.2] ∧ ∃ a n c, p.2 = .slice a n c
theorem IsNDv.one : ∀ x y, IsNDv x y → ∀ u ∈ x, u.oneCell' = true := by
  intro x y h u hu
  obtain ⟨rfl, a, n, c, h2⟩ := h
  rw [h2] at hu
  simp at hu
  rcases hu with rfl | rfl | rfl | rfl <;> rfl
theorem IsI.one : ∀ x y, IsI x y → ∀ u ∈ x, u.oneCell' = true := by
  intro x y h u hu
  unfold IsI at h
  subst h
  simp at hu
  subst hu
  rfl
/-- a list of nodes of the call's own -/
structure NL (X : World) (B : Nat) (v : Value) (es : List (ND × Value)) : Prop where
  main : Own1 X B 80 4 IsNDv v es
  kids : ∀ (i : Nat) (p : ND × Value), es[i]? = some p → Own1 X B 3 1 IsI p.2 p.1.kids
section
variable {X X' : World} {B : Nat} {v v' : Value} {es : List (ND × Value)}
theorem NL.nil (X : World) (B : Nat) : NL X B (.slice none 0 0) [] := ⟨⟨[], ⟨rfl, .inl ⟨rfl, rfl⟩⟩, FlatR.nil_⟩, fun i p h => by simp at h⟩
theorem NL.alloc (h : NL X B v es) (o : Obj) : NL (X.alloc o) B v es := ⟨h.main.alloc o, fun i p hp => (h.kids i p hp).alloc o⟩
theorem NL.below (h : NL X B v es) (hb : Below X.heap.size X X') : NL X' B v es :=
  ⟨h.main.stay (fun b _ hl => hb.block b hl), fun i p hp => (h.kids i p hp).stay (fun b _ hl => hb.block b hl)⟩
theorem NL.setFar (h : NL X B v es) {p : Addr} (hp : p.block < B) (u : Value) : NL (X.setCell p u) B v es :=
  ⟨h.main.setFar hp u, fun i q hq => (h.kids i q hq).setFar hp u⟩
/-- a node more, with a row of its own -/
theorem NL.push (h : NL X B v es) {e : ND} {kv : Value} (hk : Own1 X B 3 1 IsI kv e.kids) (hm : Own1 X' B 80 4 IsNDv v' (es ++ [(e, kv)])) (hg : X.grownBy X' v.ownBlock) : NL X' B v' (es ++ [(e, kv)]) := by
  refine ⟨hm, fun i p hp => ?_⟩
  rcases Nat.lt_or_ge i es.length with hl | hl
  · rw [List.getElem?_append_left hl] at hp
    exact (h.kids i p hp).kept1 h.main (by decide) hg
  · rw [List.getElem?_append_right hl] at hp
    have h0 : i - es.length = 0 := by
      rcases Nat.eq_zero_or_pos (i - es.length) with h0 | h0
      · exact h0
      · rw [List.getElem?_eq_none (by simp; omega)] at hp; cases hp
    rw [h0] at hp
    simp at hp
    subst hp
    exact hk.kept1 h.main (by decide) hg
theorem NL.read (h : NL X B v es) : SlR X X.heap.size 4 (ND.Is X X.heap.size) v (es.map (·.1)) := by
  obtain ⟨a, c, rfl, h1, h2, h3⟩ := h.main.read (by omega)
  refine ⟨a, c, by rw [List.length_map], by rw [List.length_map]; exact h1, h2, fun hl => ?_⟩
  rw [List.length_map] at hl
  obtain ⟨b, off, hb, hlt, hat⟩ := h3 hl
  refine ⟨b, off, hb, hlt, fun i y hy => ?_⟩
  rw [List.getElem?_map] at hy
  cases he : es[i]? with
  | none => rw [he] at hy; cases hy
  | some p =>
    rw [he] at hy
    injection hy with hy
    subst hy
    obtain ⟨x, hx, ⟨hR, _⟩, hc⟩ := hat i p he
    exact ⟨x, hx, ⟨p.2, hR, (h.kids i p he).read (by omega)⟩, hc⟩
end
set_option maxRecDepth 100000 in
set_option maxHeartbeats 40000000 in
theorem twin8 {l : List ND} {v : Value} (w w0 : World) (hs : SlR w0 w0.heap.size 4 (ND.Is w0 w0.heap.size) v l) (hl : l.length * 56 ≤ 140737488355328) (hk : ∀ d ∈ l, d.kids.length * 8 ≤ 140737488355328) (hw : Below w0.heap.size w0 w) :
    Calls Tryd.prog 11 #[.agg #[v]] w fun e w' => ∃ v' es, e = .returned (.agg #[v']) ∧ NL w' (w.heap.size + 3) v' es ∧ es.map (·.1) = l ∧ Below w.heap.size w w' := by
  obtain ⟨a, c, rfl⟩ : ∃ a c, v = .slice a l.length c := by obtain ⟨a, c, h, _⟩ := hs.form; exact ⟨a, c, h⟩
  obtain ⟨n, hn⟩ : ∃ n, l.length = n := ⟨_, rfl⟩
  have HN := Lib.hid hn
  rw [hn] at hl ⊢
  have HS := Lib.hid hs
  have HW := Lib.hid hw
  have HKB := Lib.hid hk
  have n63 : (n : Int) ≤ 140737488355328 := by omega
  have BA : Hid (Below w.heap.size w (((w.alloc (.cells #[.slice a n c] 38)).alloc (.cells #[.slice none 0 0] 38)).alloc (.cells #[.slice none 0 0] 38))) := Lib.hid ((((Below.refl _ _).alloc (Nat.le_refl _) _).alloc (by rw [World.size_alloc]; omega) _).alloc (by rw [World.size_alloc, World.size_alloc]; omega) _)
  have KQA : Hid (Blk (((w.alloc (.cells #[.slice a n c] 38)).alloc (.cells #[.slice none 0 0] 38)).alloc (.cells #[.slice none 0 0] 38)) w.heap.size 38 #[.slice a n c]) := Lib.hid (((Blk.new _ _ _).alloc _).alloc _)
  have KRA : Hid (Blk (((w.alloc (.cells #[.slice a n c] 38)).alloc (.cells #[.slice none 0 0] 38)).alloc (.cells #[.slice none 0 0] 38)) (w.heap.size + 1) 38 #[.slice none 0 0]) := Lib.hid ((Blk.new_ (by rw [World.size_alloc]) _ _).alloc _)
  have KOA : Hid (Blk (((w.alloc (.cells #[.slice a n c] 38)).alloc (.cells #[.slice none 0 0] 38)).alloc (.cells #[.slice none 0 0] 38)) (w.heap.size + 2) 38 #[.slice none 0 0]) := Lib.hid (Blk.new_ (by rw [World.size_alloc, World.size_alloc]) _ _)
  obtain ⟨jE, hi, hz, hs2, hby⟩ := info_parts info_enode
  have IE := Lib.hid (And.intro hi (And.intro hz (And.intro hs2 hby)))
  clear hi hz hs2 hby
  obtain ⟨jI, hi, hz, hs2, hby⟩ := info_parts info_int
  have II := Lib.hid (And.intro hi (And.intro hz (And.intro hs2 hby)))
  clear hi hz hs2 hby hs hw hn hk
  go_enter Tryd.func11, Tryd.ntmps11
  go_wp2_with fail
  go_loopw [4, 5] (fun iv _ wr => ∃ (j : Nat) (oa : Option Addr) (oc : Nat) (es : List (ND × Value)), j ≤ n ∧ iv = .int .i64 (j : Int) ∧ Hid (es.map (·.1) = l.take j) ∧ Hid (NL wr (w.heap.size + 3) (.slice oa j oc) es) ∧ Hid (Blk wr w.heap.size 38 #[.slice a n c]) ∧ Hid (Blk wr (w.heap.size + 1) 38 #[.slice none 0 0]) ∧ Hid (Blk wr (w.heap.size + 2) 38 #[.slice oa j oc]) ∧ Hid (Below w.heap.size w wr)) (fun iv _ _ => n - (intOf iv).toNat)
  case atStart => exact ⟨0, none, 0, [], Nat.zero_le _, rfl, Lib.hid rfl, Lib.hid (NL.nil _ _), KQA, KRA, KOA, BA⟩
  case round =>
    obtain ⟨j, oa, oc, es, hj, rfl, HES, HEL, KQ1, KR1, KO1, HB1⟩ := hrel
    clear KQA KRA KOA BA
    obtain ⟨wo, hwo⟩ : ∃ W, W = wr := ⟨wr, rfl⟩
    subst hwo
    have j0 : (0 : Int) ≤ (j : Int) := Int.natCast_nonneg _
    have q0 : wo.cell? ⟨w.heap.size, 0, none⟩ = some (.slice a n c) := KQ1.out.cell (i := 0) rfl
    have o0 : wo.cell? ⟨w.heap.size + 2, 0, none⟩ = some (.slice oa j oc) := KO1.out.cell (i := 0) rfl
    have r0 : wo.cell? ⟨w.heap.size + 1, 0, none⟩ = some (.slice none 0 0) := KR1.out.cell (i := 0) rfl
    have zr := KR1.out.frozen 0
    have lq := KQ1.out.lt
    have lr := KR1.out.lt
    have lo := KO1.out.lt
    by_cases hlt : j < n
    · obtain ⟨d, hd⟩ := get_some HN.out hlt
      have hwr : Below w0.heap.size w0 wo := HW.out.trans (HB1.out.mono HW.out.size)
      obtain ⟨bN, off, x, rfl, hbN, _, ⟨kv, rfl, hks⟩, hx⟩ := (HS.out.below hwr).at_ hd
      obtain ⟨ka, kc, rfl, _⟩ := hks.form
      have hkb := HKB.out d (List.mem_iff_getElem?.2 ⟨j, hd⟩)
      obtain ⟨kn, hkn⟩ : ∃ z, d.kids.length = z := ⟨_, rfl⟩
      rw [hkn] at hks hx hkb
      have x0 : wo.cell? ⟨bN, off + j * 4, none⟩ = some (.int .i64 d.kind) := hx 0 _ rfl
      have x1 : wo.cell? ⟨bN, off + j * 4 + 1, none⟩ = some (.string (txt d.text)) := hx 1 _ rfl
      have x2 : wo.cell? ⟨bN, off + j * 4 + 2, none⟩ = some (.int .i64 d.num) := hx 2 _ rfl
      have x3 : wo.cell? ⟨bN, off + j * 4 + 3, none⟩ = some (.slice ka kn kc) := hx 3 _ rfl
      have kn63 : kn ≤ 9223372036854775807 := by omega
      have KB := Lib.hid hkb
      have w0le : w0.heap.size ≤ wo.heap.size := hwr.size
      have KS2 : Hid (SlR ((wo.alloc (.cells #[.int .i64 d.kind, .string (txt d.text), .int .i64 d.num, .slice ka kn kc] 80)).alloc (.cells #[] 3)) w0.heap.size 1 IsI (.slice ka kn kc) d.kids) := Lib.hid (hks.below (hwr.trans (((Below.refl w0.heap.size wo).alloc w0le _).alloc (by rw [World.size_alloc]; omega) _)))
      have HD := Lib.hid hd
      have jn : (j : Int) < (n : Int) := by omega
      have HEN : Hid (es.length = j) := Lib.hid (by have := congrArg List.length HES.out; rw [List.length_map, List.length_take, HN.out] at this; omega)
      have HSZ : Hid (w.heap.size + 3 ≤ wo.heap.size) := Lib.hid (by omega)
      have lbN : bN < wo.heap.size := by omega
      have tokA : True := trivial
      clear hd hks hx hwr hkn hbN
      go_wp2_with (first
          | (at_builtin
             have _t := tokA
             go_must (refine wpList_append_list rfl (.tmp 18) (.tmp 20) _ rfl (wo.heap.size + 1) w0.heap.size 3 jI _ 1 8 Tryd.underlying64 II.out.1 II.out.2.1 II.out.2.2.1 II.out.2.2.2 rfl (by omega) (R := IsI) (l := ([] : List Int)) (m := d.kids) (.slice (some ⟨wo.heap.size + 1, 0, none⟩) 0 0) ?_ (by exact Own1.empty (w := (wo.alloc (.cells #[.int .i64 d.kind, .string (txt d.text), .int .i64 d.num, .slice ka kn kc] 80))) (by rw [World.size_alloc]) (by rw [World.size_alloc]; exact Nat.le_refl _)) ka kn kc ?_ (by exact KS2.out) kn (by simp) IsI.one (by simp; unfold maxLen; omega) (by simp; exact KB.out) (by rw [World.size_alloc, World.size_alloc]; omega) ?_)
             rfl
             rfl
             intro la lc w3 hown hgr
             have O3 := Lib.hid (And.intro hown hgr)
             have BO : Hid (Below wo.heap.size wo w3) := Lib.hid ((((Below.refl wo.heap.size wo).alloc (Nat.le_refl _) _).alloc (by rw [World.size_alloc]; omega) _).grown hgr (by rw [World.size_alloc, World.size_alloc]; omega) (fun g' hg' => by simp [Value.ownBlock] at hg'; omega))
             have G3 := Lib.hid ((((Blk.new wo 80 #[.int .i64 d.kind, .string (txt d.text), .int .i64 d.num, .slice ka kn kc]).alloc (.cells #[] 3))).grown hgr (by simp [Value.ownBlock]))
             have y0 : w3.cell? ⟨wo.heap.size, 0, none⟩ = some (.int .i64 d.kind) := G3.out.cell rfl
             have y1 : w3.cell? ⟨wo.heap.size, 1, none⟩ = some (.string (txt d.text)) := G3.out.cell rfl
             have y2 : w3.cell? ⟨wo.heap.size, 2, none⟩ = some (.int .i64 d.num) := G3.out.cell rfl
             have y3 : w3.cell? ⟨wo.heap.size, 3, none⟩ = some (.slice ka kn kc) := G3.out.cell rfl
             have yz := G3.out.frozen 3
             have lg3 := G3.out.lt
             have o3 : w3.cell? ⟨w.heap.size + 2, 0, none⟩ = some (.slice oa j oc) := (KO1.out.below BO.out KO1.out.lt).cell (i := 0) rfl
             have lo3 := cell_lt o3
             clear hown hgr tokA _t)
          | (at_builtin
             go_must (refine wpList_append_list rfl (.tmp 24) (.tmp 26) _ rfl (w.heap.size + 3) ((w3.setCell ⟨wo.heap.size, 3, none⟩ (.slice la kn lc)).heap.size + 1) 80 jE _ 4 56 Tryd.underlying36 IE.out.1 IE.out.2.1 IE.out.2.2.1 IE.out.2.2.2 rfl (by omega) (R := IsNDv) (l := es) (m := [(d, .slice la kn lc)]) (.slice oa j oc) ?_ (by exact ((HEL.out.below (BO.out.setCell (p := ⟨wo.heap.size, 3, none⟩) (Nat.le_refl _) (.slice la kn lc)))).main.alloc (.cells #[.int .i64 d.kind, .string (txt d.text), .int .i64 d.num, .slice la kn lc] 80)) (some ⟨w3.heap.size, 0, none⟩) 1 1 ?_ (by exact SlR.new1 (w := (w3.setCell ⟨wo.heap.size, 3, none⟩ (.slice la kn lc))) (x := [.int .i64 d.kind, .string (txt d.text), .int .i64 d.num, .slice la kn lc]) (by simp) rfl ⟨rfl, _, _, _, rfl⟩) (j + 1) (by rw [HEN.out]) IsNDv.one (by rw [HEN.out]; unfold maxLen; omega) (by rw [HEN.out]; omega) (by have := BO.out.size; have := HSZ.out; rw [World.size_alloc, World.size_setCell]; omega) ?_)
             rfl
             rfl
             intro oa2 oc2 w4 hown hgr
             have O4 := Lib.hid (And.intro hown hgr)
             have K4 := Lib.hid (((KO1.out.below (BO.out.setCell (p := ⟨wo.heap.size, 3, none⟩) (Nat.le_refl _) (.slice la kn lc)) KO1.out.lt).alloc (.cells #[.int .i64 d.kind, .string (txt d.text), .int .i64 d.num, .slice la kn lc] 80)).grown hgr (fun e => by have := (HEL.out.main.block _ e.symm).1; omega))
             have g4 : w4.cell? ⟨w.heap.size + 2, 0, none⟩ = some (.slice oa j oc) := K4.out.cell (i := 0) rfl
             have z4 := K4.out.frozen 0
             clear hown hgr))
      have BO2 : Below wo.heap.size wo (w3.setCell ⟨wo.heap.size, 3, none⟩ (.slice la kn lc)) := BO.out.setCell (p := ⟨wo.heap.size, 3, none⟩) (Nat.le_refl _) _
      have hkv : Own1 ((w3.setCell ⟨wo.heap.size, 3, none⟩ (.slice la kn lc)).alloc (.cells #[.int .i64 d.kind, .string (txt d.text), .int .i64 d.num, .slice la kn lc] 80)) (w.heap.size + 3) 3 1 IsI (.slice la kn lc) d.kids := by
        have := ((O3.out.1.setFar (p := ⟨wo.heap.size, 3, none⟩) (Nat.lt_succ_self _) (.slice la kn lc)).alloc (.cells #[.int .i64 d.kind, .string (txt d.text), .int .i64 d.num, .slice la kn lc] 80)).mono (base' := w.heap.size + 3) (by have := HSZ.out; omega)
        rw [List.nil_append] at this
        exact this
      have E4 := ((HEL.out.below BO2).alloc (.cells #[.int .i64 d.kind, .string (txt d.text), .int .i64 d.num, .slice la kn lc] 80)).push (e := d) hkv O4.out.1 O4.out.2
      have HB4 : Below (w.heap.size + 3) wo w4 := ((BO2.mono HSZ.out).alloc (by have := BO2.size; have := HSZ.out; omega) (.cells #[.int .i64 d.kind, .string (txt d.text), .int .i64 d.num, .slice la kn lc] 80)).grown O4.out.2 (by have := BO2.size; have := HSZ.out; rw [World.size_alloc]; omega) (fun g' hg' => (HEL.out.main.block g' hg').1)
      have HE4 := Lib.hid E4
      have HB5 := Lib.hid HB4
      clear E4 HB4 hkv BO2
      go_roundw
      case rel =>
        refine ⟨j + 1, oa2, oc2, es ++ [(d, .slice la kn lc)], by omega, by go_num, Lib.hid ?_, Lib.hid (HE4.out.setFar (p := ⟨w.heap.size + 2, 0, none⟩) (Nat.lt_succ_self _) _), Lib.hid ((KQ1.out.below HB5.out (by omega)).far (by show w.heap.size ≠ w.heap.size + 2; omega) _), Lib.hid ((KR1.out.below HB5.out (by omega)).far (by show w.heap.size + 1 ≠ w.heap.size + 2; omega) _), Lib.hid (K4.out.set_ 0 _), Lib.hid ((HB1.out.trans (HB5.out.mono (by omega))).setCell (p := ⟨w.heap.size + 2, 0, none⟩) (by show w.heap.size ≤ w.heap.size + 2; omega) _)⟩
        rw [take_snoc1 HD.out, List.map_append, HES.out]
        rfl
      case measure => simp [intOf]; omega
    · obtain rfl : j = n := by omega
      have djj : decide (j < j) = false := by simp
      clear hlt
      go_wp2_with fail
      generalize hW9 : World.setCell wo _ _ = W9
      have r9 : W9.cell? ⟨w.heap.size + 1, 0, none⟩ = some (.slice oa j oc) := by rw [← hW9]; exact (KR1.out.set_ 0 _).cell rfl
      have b9 : Below w.heap.size w W9 := by rw [← hW9]; exact HB1.out.setCell (p := ⟨w.heap.size + 1, 0, none⟩) (Nat.le_succ _) _
      have e9 : NL W9 (w.heap.size + 3) (.slice oa j oc) es := by rw [← hW9]; exact HEL.out.setFar (p := ⟨w.heap.size + 1, 0, none⟩) (by show w.heap.size + 1 < w.heap.size + 3; omega) _
      refine bodyPost_ret (v := .agg #[.slice oa j oc]) (by simp [results, Tryd.results11, go_sem, r9]) rfl ?_
      refine ⟨_, es, rfl, e9, ?_, b9⟩
      rw [HES.out, List.take_of_length_le (by rw [HN.out]; exact Nat.le_refl _)]
end Go.Proofs.YtdkoafmgenbkbaaDoor
namespace Go.Proofs.YtdkoafmgenbkbaaDoor
set_option linter.unusedSimpArgs false
set_option linter.unusedVariables false
open Go.RowKit Go.ChangeShapes Go.WideShapes Go.ChangeAt
theorem own : ownKnob Tryd.prog.godebug = none := by kernel_rfl
theorem laidOut : laidOutB Tryd.prog = true := by kernel_rfl
theorem cellsS : Tryd.prog.cellsOf 9 = 1 := by kernel_rfl
/-- an array of texts that reads as a table holds the table's texts, cell by cell -/
theorem cells_of_texts {H : Type} {enc : TypeId × Value → H} {P : Program} {w : World} {base : Nat} {sp : Nat → Bool} {held : Bool} {fuel : Nat} {t e : TypeId} {n : Nat} {cs : List Value} {zs : List (List UInt8)} {p : List MemPlace}
    (ht : P.underlying t = some (.array n e)) (he : P.underlying e = some .string) (hce : P.cellsOf e = 1) (hct : P.cellsOf t = n)
    (h : DataW.trod enc P w base sp held fuel t cs = some (.agg (zs.map fun z => .lit (.string z)), p)) : cs = zs.map fun z => Value.string ⟨z.toArray⟩ := by
  cases fuel with
  | zero => simp [DataW.trod] at h
  | succ fuel =>
    simp only [DataW.trod, ht, hce, hct, Nat.mul_one] at h
    split at h
    · rename_i hl
      obtain ⟨xs, hm, hx⟩ := Option.map_eq_some_iff.1 h
      have hxs : xs.map (·.1) = zs.map fun z => (DataW.lit (.string z) : DataW H) := by
        have := congrArg Prod.fst hx
        simpa using this
      have hxl : xs.length = n := by simpa using Lib.mapM_length hm
      have hzl : zs.length = n := by
        have := congrArg List.length hxs
        simp at this
        omega
      apply List.ext_getElem?
      intro i
      by_cases hi : i < n
      · obtain ⟨b, hb, hf⟩ := Lib.mapM_at hm i i (by simp [hi])
        obtain ⟨z, hc, rfl, _⟩ := DataW.trod_string he hf
        have h1 : cs[i]? = some (.string z) := by
          have := congrArg (·[0]?) hc
          simpa [List.getElem?_take, List.getElem?_drop] using this
        have h2 : (xs.map (·.1))[i]? = some (DataW.lit (.string z.data.toList) : DataW H) := by simp [hb]
        rw [hxs] at h2
        simp only [List.getElem?_map, Option.map_eq_some_iff, DataW.lit.injEq, Lit.string.injEq] at h2
        obtain ⟨z', hz', rfl⟩ := h2
        simp [h1, hz']
      · rw [List.getElem?_eq_none (by omega), List.getElem?_eq_none (by simp; omega)]
    · cases h
theorem gP : Tryd.prog.globalNamed "internal/strconv.uint64pow10" = some 2 := by kernel_rfl
theorem gPT : (Tryd.prog.globals[2]?).map (·.type) = some 162 := by kernel_rfl
theorem cellsP : Tryd.prog.cellsOf 162 = 20 := by kernel_rfl
theorem cellsU : Tryd.prog.cellsOf 129 = 1 := by kernel_rfl
end Go.Proofs.YtdkoafmgenbkbaaDoor
namespace Go.Proofs.YtdkoafmgenbkbaaDoor
set_option linter.unusedSimpArgs false
set_option linter.unusedVariables false
open Go.RowKit Go.ChangeShapes Go.WideShapes Go.Deep
set_option linter.unusedVariables false
/-- what the reach says of data -/
def Light {H : Type} (P : Program) (t : TypeId) (d : DataW H) : Prop := ∀ n ∈ d.weights P t, n ≤ reachBytes
section
variable {H : Type} {enc : TypeId × Value → H} {P : Program} {w : World} {base : Nat} {spare : Nat → Bool} {held : Bool}
theorem weightsAll_mem {e : TypeId} : ∀ {l : List (DataW H)} {d : DataW H}, d ∈ l → ∀ n ∈ d.weights P e, n ∈ DataW.weightsAll P e l
  | d0 :: l, d, h, n, hn => by
    simp only [DataW.weightsAll, List.mem_append]
    rcases List.mem_cons.1 h with rfl | h
    · exact Or.inl hn
    · exact Or.inr (weightsAll_mem h n hn)
theorem open_SlR_light {α : Type} {t e : TypeId} {fuel size bytes : Nat} {v : Value} {d : DataW H × List MemPlace} (R : List Value → α → Prop) (ht : P.underlying t = some (.slice e)) (hC : P.cellsOf e = size) (hs : 0 < size) (hby : P.bytesOf e = bytes)
    (h : DataW.trod enc P w base spare held fuel t [v] = some d) (hl : Light P t d.1)
    (hR : ∀ (n : Nat) (x : List Value) (y : DataW H × List MemPlace), x.length = size → DataW.trod enc P w base spare held n e x = some y → Light P e y.1 → ∃ z : α, R x z) :
    ∃ l : List α, SlR w w.heap.size size R v l ∧ Fit l.length bytes := by
  rcases open_slice ht h with ⟨h0, _⟩ | ⟨a, len, cap, m, n, D, Pl, hcs, hb, hle, hm, hmm, hx, hi⟩
  · simp at h0
    subst h0
    exact ⟨[], SlR.nil_ _ (by unfold maxLen; omega) _, by unfold Fit; simp⟩
  · simp at hcs
    subst hcs
    rw [hC] at hi
    have hlm : len ≤ m := by rw [hmm]; split <;> omega
    subst hx
    have hel : ∀ i, i < len → Light P e (D i) := by
      intro i hil n hn
      refine hl n ?_
      simp only [DataW.weights, ht, List.mem_cons, List.mem_append]
      exact Or.inr (Or.inl (weightsAll_mem (List.mem_map.2 ⟨i, List.mem_range.2 hil, rfl⟩) n hn))
    have key : ∀ i, i < len → ∃ z : α, ∃ x : List Value, x.length = size ∧ R x z ∧ ∀ (j : Nat) (u : Value), x[j]? = some u → w.cell? (a.add (i * size + j)) = some u := by
      intro i hil
      obtain ⟨cs', h1, h2⟩ := hi i (by omega)
      obtain ⟨_, hlen, hat⟩ := World.cells?_some h1
      obtain ⟨z, hz⟩ := hR n cs' _ hlen h2 (hel i hil)
      refine ⟨z, cs', hlen, hz, fun j u hu => ?_⟩
      have hj : j < size := by rw [← hlen]; exact (List.getElem?_eq_some_iff.1 hu).1
      have := hat j hj
      rw [hu] at this
      rw [← Go.Deep.add_add]
      exact this
    obtain ⟨l, hlen, hp⟩ := list_of_forall len key
    refine ⟨l, ⟨some a, cap, by rw [hlen], by omega, hm, fun hl0 => ?_⟩, ?_⟩
    · obtain ⟨b, off, spot⟩ := a
      obtain ⟨x, hx1, _, hx3⟩ := hp 0 l[0] (List.getElem?_eq_getElem hl0)
      have hc0 := hx3 0 x[0] (List.getElem?_eq_getElem (by omega))
      have hspot : spot = none := by simpa [Addr.add] using World.cell?_spot hc0
      subst hspot
      refine ⟨b, off, rfl, by simpa [Addr.add] using cell_lt hc0, fun i y hy => ?_⟩
      obtain ⟨x, hx1, hx2, hx3⟩ := hp i y hy
      refine ⟨x, hx1, hx2, fun j u hu => ?_⟩
      have := hx3 j u hu
      have e : (Addr.add ⟨b, off, none⟩ (i * size + j)) = ⟨b, off + i * size + j, none⟩ := by
        unfold Addr.add
        split
        · rename_i h0
          rw [Nat.add_assoc, h0, Nat.add_zero]
        · rw [Nat.add_assoc]
      rwa [e] at this
    · have hw : (len + (m - len)) * bytes ≤ reachBytes := by
        refine hl _ ?_
        simp only [DataW.weights, ht, List.mem_cons, hby, List.length_map, List.length_range]
        exact Or.inl trivial
      unfold Fit
      rw [hlen]
      have hr : reachBytes < 2 ^ 47 := by decide
      have : len * bytes ≤ (len + (m - len)) * bytes := Nat.mul_le_mul_right _ (by omega)
      omega
theorem open_fields_light {e : TypeId} {fs : Array Field} {fuel : Nat} {x : List Value} {d : DataW H × List MemPlace} (he : P.underlying e = some (.struct fs)) (hone : oneCellFields P fs = true) (hC : P.cellsOf e = fs.size)
    (h : DataW.trod enc P w base spare held fuel e x = some d) (hl : Light P e d.1) :
    x.length = fs.size ∧ ∃ n, ∀ (j : Nat) (f : Field), fs[j]? = some f → ∃ (u : Value) (y : DataW H × List MemPlace), x[j]? = some u ∧ DataW.trod enc P w base spare held n f.type [u] = some y ∧ Light P f.type y.1 := by
  obtain ⟨ys, n, hn, hy, hlen, hyl, hf⟩ := DataW.trod_struct he h
  rw [hC] at hlen
  refine ⟨hlen, n, fun j f hj => ?_⟩
  obtain ⟨ho, hk⟩ := hone_of hone j f hj
  have hjl : j < fs.size := (Array.getElem?_eq_some_iff.1 hj).1
  have h1 := hf j f hj
  rw [ho, hk] at h1
  have hone' : (x.drop j).take 1 = [x[j]'(by omega)] := by
    rw [List.drop_eq_getElem_cons (by omega)]
    rfl
  rw [hone', List.getElem?_eq_getElem (show j < ys.length by omega)] at h1
  refine ⟨_, _, List.getElem?_eq_getElem (by omega), h1, fun n hn => hl n ?_⟩
  subst hy
  simp only [DataW.weights, he]
  exact DataW.weights_mem_each (j := j) (by simp [hj]) (by simp [List.getElem?_eq_getElem (show j < ys.length by omega)]) n hn
end
/-- a text's field -/
theorem open_text {H : Type} {enc : TypeId × Value → H} {P : Program} {w : World} {n : Nat} {t : TypeId} {u : Value} {d : DataW H × List MemPlace} (ht : P.underlying t = some .string) (h : DataW.trod enc P w 0 (fun _ => true) true n t [u] = some d) (hl : Light P t d.1) :
    ∃ s : ByteArray, u = .string s ∧ s.size ≤ 140737488351232 := by
  obtain ⟨a1, hk, hy1, b1⟩ := DataW.trod_string ht h
  simp at hk
  subst hk
  refine ⟨a1, rfl, ?_⟩
  subst hy1
  have := hl a1.data.toList.length (by simp [DataW.weights])
  have e3 : reachBytes = 140737488351232 := rfl
  have e : a1.data.toList.length = a1.size := Array.length_toList
  omega
end Go.Proofs.YtdkoafmgenbkbaaDoor
namespace Go.Proofs.YtdkoafmgenbkbaaDoor
set_option linter.unusedSimpArgs false
set_option linter.unusedVariables false
open Go.RowKit Go.ChangeShapes Go.WideShapes Go.ChangeAt
theorem gMk : Tryd.prog.globalNamed "topiary/lex.marks" = some 3 := by kernel_rfl
theorem gMkT : (Tryd.prog.globals[3]?).map (·.type) = some 166 := by kernel_rfl
theorem cellsMk : Tryd.prog.cellsOf 166 = 16 := by kernel_rfl
theorem marks_headC {W : World} {rest : List (String × DataW Unit)} (h : laidMet Tryd.prog (("topiary/lex.marks", Rows.laid_topiary_lex_marks) :: rest) W) : Marks W := by
  obtain ⟨ps, ⟨g', t', cs, fuel, p, q, hg', ht', hvar, hd, _, _⟩, _⟩ := h
  obtain rfl := Option.some.inj (gMk.symm.trans hg')
  obtain rfl := Option.some.inj (gMkT.symm.trans ht')
  have hd' : DataW.trod (fun _ => ()) Tryd.prog W 0 (fun _ => true) false fuel 166 cs.toList = some (.agg ((marksL.map fun m => m.map UInt8.ofNat).map fun z => .lit (.string z)), p) := hd
  have := cells_of_texts Tryd.underlying166 Tryd.underlying9 cellsS cellsMk hd'
  unfold Marks
  rw [hvar]
  congr 1
  apply Array.toList_inj.1
  rw [this]
  rfl
theorem varsM {W : World} (h : laidMetH Tryd.prog Rows.codeCompilesRow.laid W) : Marks W ∧ Pow W := by
  have h1 : laidMet Tryd.prog Rows.codeCompilesRow.laid W := h
  have h2 := h1.tail.tail
  exact ⟨marks_headC h2.tail, Lib.tabIs_of_head gP gPT Tryd.underlying162 Tryd.underlying129 cellsU cellsP h2⟩
/-- one start that fits: the tables as their initialisers lay them -/
noncomputable def laidWorldM (os : Os) : World :=
  let w0 := World.holding Tryd.prog os ⟨#[], #[], []⟩
  { w0 with heap := (((w0.heap.modify 3 fun
      | .cells _ t frozen => .cells marksV t frozen
      | o => o).modify 2 fun
      | .cells _ t frozen => .cells #[.int .u64 1, .int .u64 10, .int .u64 100, .int .u64 1000, .int .u64 10000, .int .u64 100000, .int .u64 1000000, .int .u64 10000000, .int .u64 100000000, .int .u64 1000000000, .int .u64 10000000000, .int .u64 100000000000, .int .u64 1000000000000, .int .u64 10000000000000, .int .u64 100000000000000, .int .u64 1000000000000000, .int .u64 10000000000000000, .int .u64 100000000000000000, .int .u64 1000000000000000000, .int .u64 10000000000000000000] t frozen
      | o => o).modify 6 fun
      | .cells _ t frozen => .cells #[.int .u8 0, .int .u8 1, .int .u8 28, .int .u8 2, .int .u8 29, .int .u8 14, .int .u8 24, .int .u8 3, .int .u8 30, .int .u8 22, .int .u8 20, .int .u8 15, .int .u8 25, .int .u8 17, .int .u8 4, .int .u8 8, .int .u8 31, .int .u8 27, .int .u8 13, .int .u8 23, .int .u8 21, .int .u8 19, .int .u8 16, .int .u8 7, .int .u8 26, .int .u8 12, .int .u8 18, .int .u8 6, .int .u8 11, .int .u8 5, .int .u8 10, .int .u8 9] t frozen
      | o => o).modify 7 fun
      | .cells _ t frozen => .cells #[.int .u8 0, .int .u8 1, .int .u8 56, .int .u8 2, .int .u8 57, .int .u8 49, .int .u8 28, .int .u8 3, .int .u8 61, .int .u8 58, .int .u8 42, .int .u8 50, .int .u8 38, .int .u8 29, .int .u8 17, .int .u8 4, .int .u8 62, .int .u8 47, .int .u8 59, .int .u8 36, .int .u8 45, .int .u8 43, .int .u8 51, .int .u8 22, .int .u8 53, .int .u8 39, .int .u8 33, .int .u8 30, .int .u8 24, .int .u8 18, .int .u8 12, .int .u8 5, .int .u8 63, .int .u8 55, .int .u8 48, .int .u8 27, .int .u8 60, .int .u8 41, .int .u8 37, .int .u8 16, .int .u8 46, .int .u8 35, .int .u8 44, .int .u8 21, .int .u8 52, .int .u8 32, .int .u8 23, .int .u8 11, .int .u8 54, .int .u8 26, .int .u8 40, .int .u8 15, .int .u8 34, .int .u8 20, .int .u8 31, .int .u8 10, .int .u8 25, .int .u8 14, .int .u8 19, .int .u8 9, .int .u8 13, .int .u8 8, .int .u8 7, .int .u8 6] t frozen
      | o => o }
theorem laid_metM (os : Os) (args : Array Value) : laidMet Tryd.prog Rows.codeCompilesRow.laid ((laidWorldM os).forCall (fun _ _ => 0) ⟨#[], args, []⟩).memory :=
  laidMet_of_run' 8 (by kernel_rfl) (by kernel_rfl)
end Go.Proofs.YtdkoafmgenbkbaaDoor
namespace Go.Proofs.YtdkoafmgenbkbaaDoor
set_option linter.unusedSimpArgs false
set_option linter.unusedVariables false
open Go.RowKit
theorem neq_Ins (y z : Ins) (b : Bool) (h : decide (y = z) = !b) (W : World) : (binOp .neq 46 (.agg #[.int .i64 y.op, .int .i64 y.arg, .int .i64 y.int, .string y.text]) (.agg #[.int .i64 z.op, .int .i64 z.arg, .int .i64 z.int, .string z.text])).run Tryd.prog W = .ok (.bool b) W := by
  obtain ⟨y0, y1, y2, y3⟩ := y
  obtain ⟨z0, z1, z2, z3⟩ := z
  go_simp
  simp only [toList_inj]
  cases b <;> simp at h
  all_goals first
    | (simp [h]; done)
    | (repeat' split
       all_goals simp_all)
set_option maxRecDepth 100000 in
set_option maxHeartbeats 4000000 in
theorem rsame_any {l m : List Ins} {v v' : Value} (w w0 : World) (hs : SlR w0 w0.heap.size 4 Ins.Is v l) (ht : SlR w0 w0.heap.size 4 Ins.Is v' m) (hw : Below w0.heap.size w0 w) :
    Calls Tryd.prog 10 #[.agg #[v], .agg #[v']] w fun e w' => e = .returned (.bool (decide (l = m))) ∧ Below w.heap.size w w' := by
  obtain ⟨a, c, rfl⟩ : ∃ a c, v = .slice a l.length c := by obtain ⟨a, c, h, _⟩ := hs.form; exact ⟨a, c, h⟩
  obtain ⟨a', c', rfl⟩ : ∃ a c, v' = .slice a m.length c := by obtain ⟨a, c, h, _⟩ := ht.form; exact ⟨a, c, h⟩
  have hn : l.length ≤ 9223372036854775807 := by have := hs.caps; unfold maxLen at this; omega
  rw [← eqBy_eq]
  by_cases hl : l.length = m.length
  · obtain ⟨n, hlen⟩ : ∃ n, l.length = n := ⟨_, rfl⟩
    rw [← hl] at ht ⊢
    rw [hlen] at hs ht hn ⊢
    have Hlen := Lib.hid hlen
    have Hl := Lib.hid hl
    have Hs := Lib.hid hs
    have Ht := Lib.hid ht
    have Hw := Lib.hid hw
    clear hs ht hlen hw hl
    have hne0 : ((n : Int) != (n : Int)) = false := by simp
    go_enter Tryd.func10, Tryd.ntmps10
    go_wp2_with fail
    generalize hW2 : World.alloc (World.alloc w _) _ = W2
    have L2 : Hid (Below w.heap.size w W2) := Lib.hid (by rw [← hW2]; exact ((Below.refl _ _).alloc (Nat.le_refl _) _).alloc (by simp) _)
    have B0 : Hid (Blk W2 w.heap.size 24 #[.slice a n c]) := Lib.hid (by rw [← hW2]; exact (Blk.new w _ _).alloc _)
    have B1 : Hid (Blk W2 (w.heap.size + 1) 24 #[.slice a' n c']) := Lib.hid (by rw [← hW2]; exact Blk.new_ (by simp) _ _)
    clear hW2
    go_loopw [5] (fun j wr => ∃ k : Nat, k ≤ n ∧ j = .int .i64 k ∧ Hid (Below W2.heap.size W2 wr) ∧ Hid (∀ i y z, i < k → l[i]? = some y → m[i]? = some z → (fun a b => decide (a = b)) y z = true)) (fun j _ => n - (intOf j).toNat)
    case atStart => exact ⟨0, Nat.zero_le _, rfl, Lib.hid (Below.refl _ _), Lib.hid (fun i d _ hi => by omega)⟩
    case round =>
      obtain ⟨k, hk, rfl, hq, hf⟩ := hrel
      have c0 : wr.cell? ⟨w.heap.size, 0, none⟩ = some (.slice a n c) := (B0.out.below hq.out B0.out.lt).cell rfl
      have c1 : wr.cell? ⟨w.heap.size + 1, 0, none⟩ = some (.slice a' n c') := (B1.out.below hq.out B1.out.lt).cell rfl
      have hb := L2.out.trans (hq.out.mono L2.out.size)
      have HB := Lib.hid hb
      by_cases hlt : k < n
      · obtain ⟨y, hd⟩ := get_some Hlen.out hlt
        obtain ⟨z, he⟩ := get_some (Hl.out.symm.trans Hlen.out) hlt
        have hw1 := Hw.out.trans (hb.mono Hw.out.size)
        obtain ⟨b, off, x, rfl, hbB, hxl, ⟨rfl, _⟩, hx⟩ := (Hs.out.below hw1).at_ hd
        obtain ⟨b', off', x', rfl, hbB', hxl', ⟨rfl, _⟩, hx'⟩ := (Ht.out.below hw1).at_ he
        have h0 := hx 0 _ rfl
        have h1 := hx 1 _ rfl
        have h2 := hx 2 _ rfl
        have h3 := hx 3 _ rfl
        have g0 := hx' 0 _ rfl
        have g1 := hx' 1 _ rfl
        have g2 := hx' 2 _ rfl
        have g3 := hx' 3 _ rfl
        simp only [Nat.add_zero] at h0 g0
        have Hd := Lib.hid hd
        have He := Lib.hid he
        clear hd he hx hxl hx' hxl' hw1 hb
        by_cases hyz : y = z
        · have hne := fun W => neq_Ins y z false (by simpa using hyz) W
          have Hyz := Lib.hid hyz
          clear hyz
          go_wp2_with fail
          go_quiet (fail)
          go_wp2_with fail
          go_roundw
          case rel => exact ⟨k + 1, by omega, by go_num, Lib.hid (below_drewN hq.out _), Lib.hid (so_far Hd.out He.out (by simpa using Hyz.out) hf.out)⟩
          case measure => simp [intOf]; omega
        · have hne := fun W => neq_Ins y z true (by simpa using hyz) W
          have Hyz := Lib.hid hyz
          clear hyz
          go_wp2_with fail
          go_quiet (fail)
          go_wp2_with fail
          go_ret
          exact ⟨by rw [eqBy_no _ l m k y z Hd.out He.out (by simpa using Hyz.out)]; rfl, below_drewN HB.out _⟩
      · have hge : n ≤ k := by omega
        clear hlt hb
        go_wp2_with fail
        go_ret
        exact ⟨by rw [eqBy_yes _ l m Hl.out (fun i y z hi => hf.out i y z (by have := Hlen.out; omega))]; rfl, HB.out⟩
  · have hne : ((l.length : Int) != (m.length : Int)) = true := by rw [bne_iff_ne]; omega
    have Hl := Lib.hid hl
    clear hl hs ht hw
    go_enter Tryd.func10, Tryd.ntmps10
    go_wp2_with fail
    go_ret
    exact ⟨by rw [eqBy_len _ l m Hl.out]; rfl, ((Below.refl _ _).alloc (Nat.le_refl _) _).alloc (by simp) _⟩
end Go.Proofs.YtdkoafmgenbkbaaDoor
namespace Go.Proofs.YtdkoafmgenbkbaaDoor
set_option linter.unusedSimpArgs false
set_option linter.unusedVariables false
open Go.RowKit
theorem grown_trans8 {a b c : World} {row : Option Nat} (h : a.grownBy b row) (k : b.grownBy c row) : a.grownBy c row :=
  ⟨k.os.trans h.os, k.tape.trans h.tape, k.output.trans h.output, Nat.le_trans h.size k.size, fun g hg hne => (k.block g (Nat.lt_of_lt_of_le hg h.size) hne).trans (h.block g hg hne)⟩
theorem grown_of_below {a b : World} (row : Option Nat) (h : Below a.heap.size a b) : a.grownBy b row := ⟨h.os, h.tape, h.output, h.size, fun g hg _ => h.block g hg⟩
theorem cell_grown {a b : World} {row : Option Nat} (h : a.grownBy b row) {p : Addr} {u : Value} (hp : a.cell? p = some u) (hne : some p.block ≠ row) : b.cell? p = some u :=
  (World.cell?_of_block (h.block p.block (cell_lt hp) hne)).trans hp
/-- what a call of the closure comes to -/
def MetE (l : List ND) (Ws : World) (b1 : Nat) (i : Int) (m f : Nat) (e : Ending) (W' : World) : Prop :=
  ∃ o : Option (Nat × Nat), o = (if i = (m : Int) then metN l f m else none) ∧ e = .returned (.int .i64 (match o with | some r => (r.1 : Int) | none => 0)) ∧ Ws.grownBy W' (some b1) ∧ ∀ r, o = some r → Blk W' b1 3 #[.int .i64 (r.2 : Int)]
theorem rmet_no (n : Nat) (a : Option Addr) (c : Nat) (b0 b1 b2 : Nat) (i : Int) (m : Nat) (W : World) (h0 : W.cell? ⟨b0, 0, none⟩ = some (.slice a n c)) (h1 : W.cell? ⟨b1, 0, none⟩ = some (.int .i64 (m : Int))) (hno : i ≠ (m : Int) ∨ (n : Int) ≤ i) :
    Calls Tryd.prog 48 #[.int .i64 i, .pointer (some ⟨b1, 0, none⟩), .pointer (some ⟨b0, 0, none⟩), .pointer (some ⟨b2, 0, none⟩)] W fun e W' => e = .returned (.int .i64 0) ∧ W' = W := by
  by_cases e : i = (m : Int)
  · subst e
    have d1 : decide ((n : Int) ≤ (m : Int)) = true := by simp; omega
    have d2 : n ≤ m := by omega
    clear hno
    go_enter Tryd.func48, Tryd.ntmps48
    go_wp2_with fail
    go_ret
    exact ⟨rfl, rfl⟩
  · have d1 : (i != (m : Int)) = true := by simpa using e
    clear hno e
    go_enter Tryd.func48, Tryd.ntmps48
    go_wp2_with fail
    go_ret
    exact ⟨rfl, rfl⟩
set_option maxRecDepth 100000 in
set_option maxHeartbeats 8000000 in
theorem rmet_any {l : List ND} {v : Value} (w0 Ws : World) (b0 b1 b2 : Nat) (hs : SlR w0 w0.heap.size 4 (ND.Is w0 w0.heap.size) v l) (hok : ∀ d ∈ l, NdOk d) (hn : l.length ≤ 256) (hm : Marks w0) (hp : Pow w0) (hl : Below w0.heap.size w0 Ws) (hb1 : w0.heap.size ≤ b1)
    (h0 : Ws.cell? ⟨b0, 0, none⟩ = some v) (h2 : Ws.cell? ⟨b2, 0, none⟩ = some (.func (.func 48) #[] #[.pointer (some ⟨b1, 0, none⟩), .pointer (some ⟨b0, 0, none⟩), .pointer (some ⟨b2, 0, none⟩)])) (n0 : b0 ≠ b1) (n2 : b2 ≠ b1) :
    ∀ (f m : Nat), l.length - m ≤ f → ∀ (i : Int) (W : World), Ws.grownBy W (some b1) → Blk W b1 3 #[.int .i64 (m : Int)] →
      Calls Tryd.prog 48 #[.int .i64 i, .pointer (some ⟨b1, 0, none⟩), .pointer (some ⟨b0, 0, none⟩), .pointer (some ⟨b2, 0, none⟩)] W (MetE l Ws b1 i m f) := by
  obtain ⟨a, c, rfl⟩ : ∃ a c, v = .slice a l.length c := by obtain ⟨a, c, h, _⟩ := hs.form; exact ⟨a, c, h⟩
  have no : ∀ (f m : Nat) (i : Int) (W : World), Ws.grownBy W (some b1) → Blk W b1 3 #[.int .i64 (m : Int)] → (i ≠ (m : Int) ∨ (l.length : Int) ≤ i) →
      Calls Tryd.prog 48 #[.int .i64 i, .pointer (some ⟨b1, 0, none⟩), .pointer (some ⟨b0, 0, none⟩), .pointer (some ⟨b2, 0, none⟩)] W (MetE l Ws b1 i m f) := by
    intro f m i W hg hB hno
    refine (rmet_no l.length a c b0 b1 b2 i m W (cell_grown hg h0 (by simpa using n0)) (hB.cell (i := 0) rfl) hno).mono ?_
    rintro e W' ⟨rfl, rfl⟩
    refine ⟨none, ?_, rfl, hg, fun r h => by cases h⟩
    by_cases e : i = (m : Int)
    · rw [if_pos e]
      have hlm : l.length ≤ m := by omega
      cases f with
      | zero => rfl
      | succ f => simp only [metN]; rw [List.getElem?_eq_none hlm]
    · rw [if_neg e]
  intro f
  induction f with
  | zero =>
    intro m hmf i W hg hB
    by_cases e : i = (m : Int)
    · exact no 0 m i W hg hB (.inr (by omega))
    · exact no 0 m i W hg hB (.inl e)
  | succ f ih =>
    intro m hmf i W hg hB
    by_cases hno : i ≠ (m : Int) ∨ (l.length : Int) ≤ i
    · exact no (f + 1) m i W hg hB hno
    obtain ⟨rfl, hlt⟩ : i = (m : Int) ∧ m < l.length := by omega
    clear hno no
    have hlW := hl.grown hg hl.size (fun k hk => by injection hk with hk; omega)
    obtain ⟨⟨k, s, nm, ks⟩, hd⟩ := get_some rfl hlt
    have hko := hok _ (List.mem_iff_getElem?.2 ⟨m, hd⟩)
    obtain ⟨b, off, x, rfl, hbB, hxl, ⟨kv, rfl, hks⟩, hx⟩ := (hs.below hlW).at_ hd
    simp only at hks hx
    obtain ⟨ka, kc, rfl, _⟩ := hks.form
    have c0 := hx 0 _ rfl
    have c1 := hx 1 _ rfl
    have c2 := hx 2 _ rfl
    have c3 := hx 3 _ rfl
    simp only [Nat.add_zero] at c0
    obtain ⟨kn, hkn⟩ : ∃ z, ks.length = z := ⟨_, rfl⟩
    have hk63 : kn ≤ 9223372036854775807 := by have := hks.caps; unfold maxLen at this; omega
    rw [hkn] at c3 hks
    have hM : metN l (f + 1) m = if mayE ⟨k, s, nm, ks⟩ = true then (metL (metN l f) ks (m + 1) 0).map fun r => (r.1 + 1, r.2) else none := by simp only [metN]; rw [hd]
    have MY := Lib.hid (p_may k s nm ks ka kn kc hkn.symm hk63 hko.1 hko.2.1 W (hm.below hlW) (hp.below hlW))
    have q0 := cell_grown hg h0 (by simpa using n0)
    have q2 := cell_grown hg h2 (by simpa using n2)
    have q1 : W.cell? ⟨b1, 0, none⟩ = some (.int .i64 (m : Int)) := hB.cell (i := 0) rfl
    have hbne : b ≠ b1 := by omega
    have HMF := Lib.hid hmf
    have HM := Lib.hid hM
    have HKS := Lib.hid (hks)
    have HKN := Lib.hid hkn
    have HG := Lib.hid hg
    have HB := Lib.hid hB
    have HIH := Lib.hid ih
    have HLW := Lib.hid hlW
    have HB1 := Lib.hid hb1
    have HLS := Lib.hid hl
    have HN := Lib.hid (And.intro h2 (And.intro n2 n0))
    have HH0 := Lib.hid h0
    obtain ⟨n, hlen⟩ : ∃ n, l.length = n := ⟨_, rfl⟩
    have HLEN := Lib.hid hlen
    rw [hlen] at hlt hn q0
    have m5 : (m : Int) ≤ 5000 := by omega
    have m0 : (0 : Int) ≤ (m : Int) := Int.natCast_nonneg _
    have d1 : ((m : Int) != (m : Int)) = false := by simp
    have d2 : decide ((n : Int) ≤ (m : Int)) = false := by simp; omega
    have d3 : ¬ n ≤ m := by omega
    have d4 : (m : Int) < (n : Int) := by omega
    have l1 := hB.lt
    clear hok hko hs hm hp hl hd hx hxl hks hkn hM hg hB ih hlW hlen h0 h2 hmf
    obtain ⟨bm, hbm⟩ : ∃ z, mayE ⟨k, s, nm, ks⟩ = z := ⟨_, rfl⟩
    rw [hbm] at MY HM
    clear hbm
    cases bm with
    | false =>
      rw [if_neg (by simp)] at HM
      go_enter Tryd.func48, Tryd.ntmps48
      go_wp2_with (first
        | (go_at_call 49; refine MY.out.mono ?_; rintro e w1 ⟨rfl, b1'⟩; have B1 := Lib.hid b1'; clear b1'))
      go_ret
      exact ⟨none, by rw [if_pos rfl, HM.out], rfl, grown_trans8 HG.out (grown_of_below _ B1.out), fun r h => by cases h⟩
    | true =>
      rw [if_pos rfl] at HM
      go_enter Tryd.func48, Tryd.ntmps48
      go_wp2_with (first
        | (go_at_call 49; refine MY.out.mono ?_; rintro e w1 ⟨rfl, b1'⟩; have B1 := Lib.hid b1'; have p1 : w1.cell? ⟨b1, 0, none⟩ = some (.int .i64 (m : Int)) := (World.cell?_of_block (b1'.block b1 l1)).trans q1; have z1 : w1.frozen? ⟨b1, 0, none⟩ = false := (HB.out.below b1' l1).frozen 0; have p0 : w1.cell? ⟨b0, 0, none⟩ = some (.slice (some ⟨b, off, none⟩) n c) := (World.cell?_of_block (b1'.block b0 (cell_lt q0))).trans q0; have pc : w1.cell? ⟨b, off + m * 4 + 3, none⟩ = some (.slice ka kn kc) := (World.cell?_of_block (b1'.block b (cell_lt c0))).trans c3; have l11 : b1 < w1.heap.size := cell_lt p1; clear b1'))
      generalize hwq : World.setCell w1 _ _ = W2
      have GR2 : Hid (Ws.grownBy W2 (some b1)) := Lib.hid (by rw [← hwq]; exact grown_trans8 (grown_trans8 HG.out (grown_of_below _ B1.out)) ⟨rfl, rfl, rfl, by simp, fun g hg hne => Below.heap_setCell w1 _ _ g (by intro e; exact hne (by rw [e]))⟩)
      have BK2 : Hid (Blk W2 b1 3 #[.int .i64 ((m + 1 : Nat) : Int)]) := Lib.hid (by rw [← hwq, show ((m + 1 : Nat) : Int) = (m : Int) + 1 by omega]; exact (HB.out.below B1.out l1).set_ 0 _)
      clear hwq p1 z1 p0 pc l11 c0 c1 c2 c3 q0 q1 q2 MY B1
      obtain ⟨R, hR⟩ : ∃ R, metL (metN l f) ks (m + 1) 0 = R := ⟨_, rfl⟩
      rw [hR] at HM
      have HR := Lib.hid hR
      clear hR
      go_loopw [6, 8, 9, 38] (fun dv _ _ iv wr => ∃ (j dp mk : Nat), j ≤ kn ∧ dv = .int .i64 (dp : Int) ∧ iv = .int .i64 (j : Int) ∧ Hid (dp ≤ 256 ∧ m + 1 ≤ mk ∧ mk ≤ l.length) ∧ Hid (Ws.grownBy wr (some b1)) ∧ Hid (Blk wr b1 3 #[.int .i64 (mk : Int)]) ∧ Hid (metL (metN l f) (ks.drop j) mk dp = R)) (fun _ _ _ iv _ => kn - (intOf iv).toNat)
      case atStart => exact ⟨0, 0, m + 1, Nat.zero_le _, rfl, rfl, Lib.hid ⟨by omega, Nat.le_refl _, by rw [HLEN.out]; omega⟩, GR2, BK2, Lib.hid (by rw [List.drop_zero]; exact HR.out)⟩
      case round =>
        clear GR2 BK2
        obtain ⟨j, dp, mk, hj, rfl, rfl, hbd, hg, hB, hrest⟩ := hrel
        have j0 : (0 : Int) ≤ (j : Int) := Int.natCast_nonneg _
        have dp5 : (dp : Int) ≤ 5000 := by have := hbd.out; omega
        have dp0 : (0 : Int) ≤ (dp : Int) := Int.natCast_nonneg _
        by_cases hlt2 : j < kn
        · obtain ⟨kk, hkk⟩ := get_some HKN.out hlt2
          obtain ⟨bb, o1, x1, rfl, hbb, _, rfl, hx1⟩ := HKS.out.at_ hkk
          have e1 : w0.cell? ⟨bb, o1 + j, none⟩ = some (.int .i64 kk) := by have := hx1 0 _ rfl; simpa using this
          have k1 : wr.cell? ⟨bb, o1 + j, none⟩ = some (.int .i64 kk) := cell_grown hg.out ((World.cell?_of_block (HLS.out.block bb hbb)).trans e1) (by intro e; injection e with e; have := HB1.out; have e' : bb = b1 := e; omega)
          have q2 := cell_grown hg.out HN.out.1 (by have := HN.out.2.1; simpa using this)
          have hdr : ks.drop j = kk :: ks.drop (j + 1) := by
            have hjl := (List.getElem?_eq_some_iff.1 hkk).1
            rw [List.drop_eq_getElem_cons hjl, (List.getElem?_eq_some_iff.1 hkk).2]
          have hrest2 := hrest.out
          rw [hdr] at hrest2
          simp only [metL] at hrest2
          have HRR := Lib.hid hrest2
          have CC := Lib.hid (HIH.out mk (by have := HMF.out; have := hbd.out; omega) kk wr hg.out hB.out)
          clear hkk hx1 e1 hdr hrest2 hrest
          go_wp2_with fail
          refine CC.out.mono ?_
          rintro e w3 ⟨o, ho, rfl, hg3, hB3⟩
          have HG3 := Lib.hid hg3
          have HB3 := Lib.hid hB3
          clear hg3 hB3 k1 q2 CC
          cases o with
          | none =>
            have hR0 : R = none := by
              have h9 := HRR.out
              by_cases e : kk = (mk : Int)
              · rw [if_pos e] at h9 ho
                rw [← ho] at h9
                exact h9.symm
              · rw [if_neg e] at h9
                exact h9.symm
            subst hR0
            clear ho
            go_wp2_with fail
            go_ret
            exact ⟨none, by rw [if_pos rfl, HM.out]; rfl, rfl, HG3.out, fun r h => by cases h⟩
          | some r =>
            obtain ⟨rd, rm⟩ := r
            have hkm : kk = (mk : Int) := by
              by_cases e : kk = (mk : Int)
              · exact e
              · rw [if_neg e] at ho; cases ho
            rw [if_pos hkm] at ho
            obtain ⟨r1, r2, r3, r4⟩ := metN_in l f mk (rd, rm) ho.symm
            simp only at r1 r2 r3 r4
            have hnew : metL (metN l f) (ks.drop (j + 1)) rm (max dp rd) = R := by
              have h9 := HRR.out
              rw [if_pos hkm, ← ho] at h9
              exact h9
            have HNEW := Lib.hid hnew
            have rd0 : ((rd : Int) == 0) = false := by simp; omega
            have rd1 : ¬ (rd : Int) = 0 := by omega
            have rd5 : (rd : Int) ≤ 5000 := by have := HLEN.out; omega
            have R256 : Hid (rd ≤ 256 ∧ m + 1 ≤ rm ∧ rm ≤ l.length) := Lib.hid ⟨by have := HLEN.out; omega, by have := hbd.out; omega, r2⟩
            have HDB := hbd
            clear ho hkm hnew r1 r2 r3 r4 hbd hB hg
            go_wp2_with fail
            go_roundw
            case rel =>
              refine ⟨j + 1, max dp rd, rm, by omega, ?_, by go_num, Lib.hid ⟨by have := HDB.out; have := R256.out; omega, R256.out.2⟩, HG3, Lib.hid (HB3.out _ rfl), HNEW⟩
              congr 1
              rcases Nat.le_total dp rd with h | h
              · rw [Nat.max_eq_right h]; first | omega | exact Int.max_eq_right (by omega)
              · rw [Nat.max_eq_left h]; first | omega | exact Int.max_eq_left (by omega)
            case measure => simp [intOf]; omega
        · obtain rfl : j = kn := by omega
          have hR0 : R = some (dp, mk) := by
            have h9 := hrest.out
            rw [List.drop_of_length_le (by rw [HKN.out]; exact Nat.le_refl _)] at h9
            simp only [metL] at h9
            exact h9.symm
          subst hR0
          have djj : decide (j < j) = false := by simp
          have HBk := hB
          have HGk := hg
          clear hlt2 hrest hB hg
          go_wp2_with fail
          go_ret
          exact ⟨some (dp + 1, mk), by rw [if_pos rfl, HM.out]; rfl, by show Ending.returned _ = _; rfl, HGk.out, fun r h => by injection h with h; subst h; exact HBk.out⟩
set_option maxRecDepth 100000 in
set_option maxHeartbeats 8000000 in
theorem right_e {l : List ND} {v : Value} (w w0 : World) (hs : SlR w0 w0.heap.size 4 (ND.Is w0 w0.heap.size) v l) (hok : ∀ d ∈ l, NdOk d) (hm : Marks w0) (hp : Pow w0) (hw : Below w0.heap.size w0 w) :
    Calls Tryd.prog 27 #[.agg #[v]] w fun e w' => e = .returned (.int .i64 (rightE l : Int)) ∧ Below w.heap.size w w' := by
  have hmf : ∀ (fn : Fn) (first cap : Array Value) (w : World), (Instr.makeFunc fn first cap).run Tryd.prog w = .ok (.func fn first cap) w := fun _ _ _ _ => rfl
  obtain ⟨a, c, rfl⟩ : ∃ a c, v = .slice a l.length c := by obtain ⟨a, c, h, _⟩ := hs.form; exact ⟨a, c, h⟩
  have hn63 : l.length ≤ 9223372036854775807 := by have := hs.caps; unfold maxLen at this; omega
  have hsz := hw.size
  by_cases hbig : 256 < l.length
  · have hv : rightE l = 4 := by unfold rightE; rw [if_pos hbig]
    rw [hv]
    have B1 : Hid (Below w.heap.size w (w.alloc (.cells #[.slice a l.length c] 38))) := Lib.hid ((Below.refl _ _).alloc (Nat.le_refl _) _)
    obtain ⟨n, hlen⟩ : ∃ n, l.length = n := ⟨_, rfl⟩
    rw [hlen] at hbig hn63 B1 ⊢
    have d1 : decide ((256 : Int) < (n : Int)) = true := by simp; omega
    have d2 : decide (256 < n) = true := by simpa using hbig
    clear hs hok hm hp hw hlen hv hbig
    go_enter Tryd.func27, Tryd.ntmps27
    go_wp2_with fail
    go_ret
    exact ⟨rfl, B1.out⟩
  · have hle : l.length ≤ 256 := by omega
    have HM := Lib.hid (fun Ws hl hb1 h0 h2 n0 n2 (hB : Blk Ws (w.heap.size + 1) 3 #[.int .i64 0]) => rmet_any w0 Ws w.heap.size (w.heap.size + 1) (w.heap.size + 1 + 1) hs hok hle hm hp hl hb1 h0 h2 n0 n2 l.length 0 (by omega) 0 Ws (World.grownBy.refl _ _) hB)
    have HW := Lib.hid hw
    have hv : rightE l = match metN l l.length 0 with | none => 80 | some r => if r.2 ≠ l.length then 80 else if 32 < r.1 then 4 else 0 := by unfold rightE; rw [if_neg hbig]; rfl
    have HV := Lib.hid hv
    have HIN := Lib.hid (metN_in l l.length 0)
    have HLE := Lib.hid hle
    have d1 : decide ((256 : Int) < (l.length : Int)) = false := by simp; omega
    have d2 : decide (256 < l.length) = false := by simpa using hbig
    clear hs hok hm hp hw hv hbig hle
    go_enter Tryd.func27, Tryd.ntmps27
    go_wp2_with (first
      | (go_at_call 48
         refine (HM.out _ (((HW.out.alloc HW.out.size _).alloc (below2 HW.out.size) _).alloc (below3 HW.out.size) _) (by omega) ((((Blk.new w _ _).alloc _).alloc _).cell (i := 0) rfl) ((Blk.new_ (by simp) _ _).cell (i := 0) rfl) (by omega) (by omega) ((Blk.new_ (by simp) _ _).alloc _)).mono ?_
         rintro e w1 ⟨o, ho, rfl, hg, hm'⟩
         have HB : Hid (Below w.heap.size w w1) := Lib.hid (((((Below.refl _ _).alloc (Nat.le_refl _) _).alloc (below2 (Nat.le_refl _)) _).alloc (below3 (Nat.le_refl _)) _).grown hg (by simp; omega) (fun k hk => by injection hk with hk; omega))
         have hc : w1.cell? ⟨w.heap.size, 0, none⟩ = some (.slice a l.length c) := cell_grown hg ((((Blk.new w _ _).alloc _).alloc _).cell (i := 0) rfl) (by simp)
         have ho' : o = metN l l.length 0 := by rw [ho]; exact if_pos (by simp)
         have hd : (o = none ∧ rightE l = 80) ∨ (∃ rd rm : Nat, o = some (rd, rm) ∧ rightE l = 80 ∧ ((rd : Int) == 0) = false ∧ ¬ (rd : Int) = 0 ∧ ((rm : Int) != (l.length : Int)) = true ∧ w1.cell? ⟨w.heap.size + 1, 0, none⟩ = some (.int .i64 (rm : Int))) ∨
             (∃ rd : Nat, o = some (rd, l.length) ∧ rightE l = 4 ∧ ((rd : Int) == 0) = false ∧ ¬ (rd : Int) = 0 ∧ decide (32 < rd) = true ∧ decide ((32 : Int) < (rd : Int)) = true ∧ w1.cell? ⟨w.heap.size + 1, 0, none⟩ = some (.int .i64 (l.length : Int))) ∨
             (∃ rd : Nat, o = some (rd, l.length) ∧ rightE l = 0 ∧ ((rd : Int) == 0) = false ∧ ¬ (rd : Int) = 0 ∧ decide (32 < rd) = false ∧ decide ((32 : Int) < (rd : Int)) = false ∧ w1.cell? ⟨w.heap.size + 1, 0, none⟩ = some (.int .i64 (l.length : Int))) := by
           rw [HV.out, ← ho']
           rcases o with _ | ⟨rd, rm⟩
           · exact .inl ⟨rfl, rfl⟩
           · obtain ⟨k1, k2, k3, k4⟩ := HIN.out _ ho'.symm
             simp only at k1 k2 k3 k4
             have q1 := (hm' _ rfl).cell (i := 0) rfl
             have r0 : ((rd : Int) == 0) = false := by simp; omega
             have r1 : ¬ (rd : Int) = 0 := by omega
             by_cases h1 : rm = l.length
             · subst h1
               by_cases h2 : 32 < rd
               · exact .inr (.inr (.inl ⟨rd, rfl, by simp [h2], r0, r1, by simpa using h2, by simp; omega, q1⟩))
               · exact .inr (.inr (.inr ⟨rd, rfl, by simp [h2], r0, r1, by simpa using h2, by simp; omega, q1⟩))
             · exact .inr (.inl ⟨rd, rm, rfl, by simp [h1], r0, r1, by rw [bne_iff_ne]; omega, q1⟩)
         clear hg hm' ho ho'
         rcases hd with ⟨rfl, hv⟩ | ⟨rd, rm, rfl, hv, r0, r1, e1, q1⟩ | ⟨rd, rfl, hv, r0, r1, e1, e2, q1⟩ | ⟨rd, rfl, hv, r0, r1, e1, e2, q1⟩))
    all_goals
      rw [hv]
      go_ret
      exact ⟨rfl, HB.out⟩
end Go.Proofs.YtdkoafmgenbkbaaDoor
namespace Go.Proofs.YtdkoafmgenbkbaaDoor
set_option linter.unusedSimpArgs false
set_option linter.unusedVariables false
open Go.RowKit
theorem own1_nil {α : Type} (w : World) (base : Nat) (t : TypeId) (size : Nat) (R : List Value → α → Prop) : Own1 w base t size R (.slice none 0 0) ([] : List α) := ⟨[], World.ownsRow_nil _ _ _ _, FlatR.nil_⟩
theorem node_all {l : List ND} {lv : Value} {W0 : World} {g : Nat} : ∀ f, NodeIs l lv W0 g f
  | 0 => fun t p vs W ov vv out H => by
    have := H.deep
    obtain ⟨k, s, n, ks⟩ := t
    simp only [Tr.deep] at this
    omega
  | f + 1 => node_step (node_all f)
/-- a tree's code -/
def codeT (t : Tr) : List Ins := cR 32 t [] 1
theorem cP_codeT {t : Tr} (hg : t.Good) (hd : t.deep ≤ 32) : cP 32 t [] [] = codeT t := by
  rw [comp_law 32 t [] [] hg hd (fun x hx => by cases hx)]
  exact then_nil _
theorem stands_nds (t : Tr) : Stands (ndsT t 0) t 0 := by
  unfold Stands
  rw [List.drop_zero, List.take_of_length_le (by rw [nds_len]; exact Nat.le_refl _)]
set_option maxRecDepth 100000 in
set_option maxHeartbeats 4000000 in
theorem compile_bad {l : List ND} {v : Value} (w w0 : World) (hs : SlR w0 w0.heap.size 4 (ND.Is w0 w0.heap.size) v l) (hok : ∀ d ∈ l, NdOk d) (hm : Marks w0) (hp : Pow w0) (hw : Below w0.heap.size w0 w) (hr : rightE l ≠ 0) :
    Calls Tryd.prog 12 #[.agg #[v]] w fun e w' => e = .returned (.tuple #[.agg #[.slice none 0 0], .int .i64 (rightE l : Int)]) ∧ Below w.heap.size w w' := by
  obtain ⟨a, c, rfl⟩ : ∃ a c, v = .slice a l.length c := by obtain ⟨a, c, h, _⟩ := hs.form; exact ⟨a, c, h⟩
  obtain ⟨n, hn⟩ : ∃ n, l.length = n := ⟨_, rfl⟩
  have HR := Lib.hid (right_e ((w.alloc (.cells #[.slice a n c] 38)).alloc (.cells #[.slice none 0 0] 24)) w0 hs hok hm hp ((hw.alloc hw.size _).alloc (Nat.le_trans hw.size (by simp)) _))
  rw [hn] at HR ⊢
  obtain ⟨r, hrr⟩ : ∃ r, rightE l = r := ⟨_, rfl⟩
  rw [hrr] at HR hr ⊢
  have e0 : ((r : Int) != 0) = true := by rw [bne_iff_ne]; omega
  clear hs hok hm hp hw hn hrr hr
  go_enter Tryd.func12, Tryd.ntmps12
  go_wp2_with (first
    | (go_at_call 27; go_must (refine HR.out.mono ?_); rintro e w3 ⟨rfl, hb⟩; have c2 : w3.cell? ⟨w.heap.size + 1, 0, none⟩ = some (.slice none 0 0) := ((Blk.new_ (w := w.alloc (.cells #[.slice a n c] 38)) (g := w.heap.size + 1) (by simp) 24 #[.slice none 0 0]).below hb (by simp)).cell rfl; have z2 : w3.frozen? ⟨w.heap.size + 1, 0, none⟩ = false := ((Blk.new_ (w := w.alloc (.cells #[.slice a n c] 38)) (g := w.heap.size + 1) (by simp) 24 #[.slice none 0 0]).below hb (by simp)).frozen 0; have HB := Lib.hid hb; clear hb)
    | fail)
  refine bodyPost_ret (v := .tuple #[.agg #[.slice none 0 0], .int .i64 (r : Int)]) (by simp [results, Tryd.results12, go_sem, c2]) rfl ?_
  exact ⟨rfl, ((((Below.refl _ _).alloc (Nat.le_refl _) _).alloc (by simp) _).trans (HB.out.mono (by simp <;> omega))).setCell (p := ⟨w.heap.size + 1, 0, none⟩) (by show w.heap.size ≤ w.heap.size + 1; omega) _⟩
set_option maxRecDepth 100000 in
set_option maxHeartbeats 4000000 in
theorem compile_ok {t : Tr} {v : Value} (w w0 : World) (hs : SlR w0 w0.heap.size 4 (ND.Is w0 w0.heap.size) v (ndsT t 0)) (hok : ∀ d ∈ ndsT t 0, NdOk d) (hm : Marks w0) (hp : Pow w0) (hw : Below w0.heap.size w0 w) (hg : t.Good) (hd : t.deep ≤ 32) (hsz : t.size ≤ 256) :
    Calls Tryd.prog 12 #[.agg #[v]] w fun e w' => ∃ ov, e = .returned (.tuple #[.agg #[ov], .int .i64 0]) ∧ Own1 w' w.heap.size 46 4 Ins.Is ov (codeT t) ∧ Below w.heap.size w w' := by
  obtain ⟨l, hl⟩ : ∃ l, ndsT t 0 = l := ⟨_, rfl⟩
  have hst := stands_nds t
  have hr : rightE l = 0 := by rw [← hl]; exact (right_of hg hsz hd).1
  rw [hl] at hs hok hst
  obtain ⟨a, c, rfl⟩ : ∃ a c, v = .slice a l.length c := by obtain ⟨a, c, h, _⟩ := hs.form; exact ⟨a, c, h⟩
  have HR := Lib.hid (right_e ((w.alloc (.cells #[.slice a l.length c] 38)).alloc (.cells #[.slice none 0 0] 24)) w0 hs hok hm hp ((hw.alloc hw.size _).alloc (Nat.le_trans hw.size (by simp)) _))
  rw [hr] at HR
  have HS := Lib.hid hs
  have HW := Lib.hid hw
  have HT := Lib.hid (And.intro hg (And.intro hd (And.intro hsz hst)))
  obtain ⟨n, hn⟩ : ∃ n, l.length = n := ⟨_, rfl⟩
  rw [hn] at HR HS ⊢
  clear hs hok hm hp hw hr hg hd hsz hst hl hn
  go_enter Tryd.func12, Tryd.ntmps12
  go_wp2_with (first
    | (go_at_call 27; go_loud (refine HR.out.mono ?_); rintro e w3 ⟨rfl, hb⟩
       have b1 := (((Blk.new w 38 #[.slice a n c]).alloc (.cells #[.slice none 0 0] 24)).below hb (by simp <;> omega))
       have b2 := ((Blk.new_ (w := w.alloc (.cells #[.slice a n c] 38)) (g := w.heap.size + 1) (by simp) 24 #[.slice none 0 0]).below hb (by simp))
       have c1 : w3.cell? ⟨w.heap.size, 0, none⟩ = some (.slice a n c) := b1.cell rfl
       have lt3 := b2.lt
       have hb0 : Below w.heap.size w w3 := (((Below.refl w.heap.size w).alloc (Nat.le_refl _) (.cells #[.slice a n c] 38)).alloc (by simp) (.cells #[.slice none 0 0] 24)).trans (hb.mono (by simp <;> omega))
       have HB := Lib.hid hb0
       have B2 := Lib.hid b2
       have M3 : Hid (MkSt (w3.alloc (.cells #[.slice a n c, .slice none 0 0, .slice none 0 0] 85)) w3.heap.size (.slice a n c) (.slice none 0 0) (.slice none 0 0) [] []) := Lib.hid ⟨Blk.new _ _ _, own1_nil _ _ _ _ _, own1_nil _ _ _ _ _⟩
       go_loud (have PN := Lib.hid (show NPre l (.slice a n c) w0 w3.heap.size 32 t 0 [] (w3.alloc (.cells #[.slice a n c, .slice none 0 0, .slice none 0 0] 85)) (.slice none 0 0) (.slice none 0 0) [] from
         ⟨HS.out, Nat.le_trans HW.out.size hb0.size, HT.out.1, HT.out.2.1, HT.out.2.2.2, (HW.out.trans (hb0.mono HW.out.size)).alloc (Nat.le_trans HW.out.size hb0.size) _, M3.out, fun v hv => (by cases hv), fun x hx => (by cases hx), fun x hx => (by cases hx), by have := HT.out.2.2.1; simp <;> omega, by simp⟩))
       clear hb b1 b2 hb0)
    | (go_at_call 28
       go_must (refine (node_all 32 t 0 [] _ _ _ [] PN.out).mono ?_)
       rintro e w5 ⟨rfl, ov, vv, hm5, hk5⟩
       obtain ⟨oa, oc, rfl⟩ := hm5.own.form
       obtain ⟨n5, hn5⟩ : ∃ x, (cP 32 t [] []).length = x := ⟨_, rfl⟩
       rw [hn5] at hm5
       have c5 : w5.cell? ⟨w3.heap.size, 1, none⟩ = some (.slice oa n5 oc) := hm5.blk.cell rfl
       have b5 := hk5.bel.mono (Nat.le_refl w3.heap.size)
       have b25 := (B2.out.alloc (.cells #[.slice a n c, .slice none 0 0, .slice none 0 0] 85)).below b5 lt3
       have c25 : w5.cell? ⟨w.heap.size + 1, 0, none⟩ = some (.slice none 0 0) := b25.cell rfl
       have z25 := b25.frozen 0
       have HM5 := Lib.hid hm5
       have HB5 := Lib.hid b5
       clear hm5 hk5 b5 b25)
    | fail)
  refine bodyPost_ret (v := .tuple #[.agg #[.slice oa n5 oc], .int .i64 0]) (by simp [results, Tryd.results12, go_sem, c25]) rfl ?_
  refine ⟨.slice oa n5 oc, rfl, ?_, ?_⟩
  · have h := HM5.out.own
    rw [cP_codeT HT.out.1 HT.out.2.1] at h
    exact (h.setFar (p := ⟨w.heap.size + 1, 0, none⟩) (by show w.heap.size + 1 < w3.heap.size + 1; omega) _).mono (by have := HB.out.size; omega)
  · exact ((HB.out.alloc HB.out.size _).trans (HB5.out.mono HB.out.size)).setCell (p := ⟨w.heap.size + 1, 0, none⟩) (by show w.heap.size ≤ w.heap.size + 1; omega) _
end Go.Proofs.YtdkoafmgenbkbaaDoor
