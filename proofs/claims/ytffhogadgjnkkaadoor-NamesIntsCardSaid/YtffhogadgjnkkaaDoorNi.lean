/- The law's walk: 'topiarylaw01.NamesInts' returns true whatever the text and the number; the library's variables hold what they began with. -/
import Derived.Test.YtffhogadgjnkkaaDoorRInt
namespace Go.Proofs.YtffhogadgjnkkaaDoor
open Go.RowKit

set_option maxHeartbeats 1000000 in
theorem ints_walk (s : ByteArray) (n : Int) (hs : s.size ≤ 281474976710656) (h0 : -9223372036854775808 ≤ n) (h1 : n ≤ 9223372036854775807) (w : World) (hv : Vars w) :
    Calls Tryd.prog 3 #[.string s, .int .i64 n] w fun e w' => e = .returned (.bool true) ∧ Below w.heap.size w w' := by
  have I1 : Hid (∀ W, Below w.heap.size w W → Calls Tryd.prog 8 #[.string s] W fun e w' => e = .returned (intV (intN (bs s))) ∧ Below W.heap.size W w') := Lib.hid (fun W hW => int_any s hs W (hv.below hW))
  have I2 := Lib.hid (fun W => ref_int s hs W)
  have S1 : Hid (∀ W, Below w.heap.size w W → Calls Tryd.prog 10 #[.int .i64 n] W fun e w' => e = .returned (.string (txt (showN n))) ∧ Below W.heap.size W w') := Lib.hid (fun W hW => show_any n h0 h1 W (hv.below hW))
  have S2 := Lib.hid (fun W => ref_show n h0 h1 W)
  generalize txt (showN n) = x at S1 S2
  obtain ⟨r, hr⟩ : ∃ r, intN (bs s) = r := ⟨_, rfl⟩
  rw [hr] at I1 I2
  clear hr hv
  rcases r with _ | v
  all_goals
    simp only [intV] at I1 I2
    go_enter Tryd.func3, Tryd.ntmps3
    go_wp2_with (first
      | (go_at_call 8; refine (I1.out _ (Below.refl _ _)).mono ?_; rintro e w1 ⟨rfl, b1⟩)
      | (go_at_call 9; refine (I2.out _).mono ?_; rintro e w2 ⟨rfl, b2⟩
         have B2 : Hid (Below w.heap.size w w2) := Lib.hid (b1.trans (b2.mono b1.size)))
      | (go_at_call 10; refine (S1.out _ B2.out).mono ?_; rintro e w3 ⟨rfl, b3⟩
         have B3 : Hid (Below w.heap.size w w3) := Lib.hid (B2.out.trans (b3.mono B2.out.size)))
      | (go_at_call 11; refine (S2.out _).mono ?_; rintro e w4 ⟨rfl, b4⟩))
    go_ret
    exact ⟨rfl, B3.out.trans (b4.mono B3.out.size)⟩
end Go.Proofs.YtffhogadgjnkkaaDoor
