/- Chapter 09: both Free of what is no expression; the reference's Texts. -/
import Derived.Test.YtidkbodmiegbkaaGreatDoorKfG
namespace Go.Proofs.YtidkbodmiegbkaaGreatDoor
set_option linter.unusedSimpArgs false
set_option linter.unusedVariables false
open Go.RowKit

set_option maxRecDepth 100000 in
set_option maxHeartbeats 4000000 in
theorem free_bad {l : List ND} {v : Value} (w w0 : World) (hs : SlR w0 w0.heap.size 4 (ND.Is w0 w0.heap.size) v l) (hok : ∀ d ∈ l, NdOk d) (hm : Marks w0) (hp : Pow w0) (htk : TakesB w0) (hw : Below w0.heap.size w0 w) (hr : rightE l ≠ 0) :
    Calls Tryz.prog 13 #[.agg #[v]] w fun e w' => e = .returned (.tuple #[.slice none 0 0, .int .i64 (rightE l : Int)]) ∧ Below w.heap.size w w' := by
  obtain ⟨a, c, rfl⟩ : ∃ a c, v = .slice a l.length c := by obtain ⟨a, c, h, _⟩ := hs.form; exact ⟨a, c, h⟩
  obtain ⟨n, hn⟩ : ∃ n, l.length = n := ⟨_, rfl⟩
  have HR := Lib.hid (look_bad (w.alloc (.cells #[.slice a n c] 24)) w0 hs hok hm hp htk (hw.alloc hw.size _) hr)
  rw [hn] at HR ⊢
  obtain ⟨r, hrr⟩ : ∃ r, rightE l = r := ⟨_, rfl⟩
  rw [hrr] at HR hr ⊢
  clear hs hok hm hp hw hn hrr hr htk
  go_enter Tryz.func13, Tryz.ntmps13
  go_wp2_with (first
    | (go_at_call 19; go_must (refine HR.out.mono ?_); rintro e w3 ⟨rfl, hb⟩; have HB := Lib.hid hb; clear hb)
    | fail)
  go_ret2
  exact ⟨rfl, ((Below.refl _ _).alloc (Nat.le_refl _) _).trans (HB.out.mono (by simp <;> omega))⟩
end Go.Proofs.YtidkbodmiegbkaaGreatDoor
