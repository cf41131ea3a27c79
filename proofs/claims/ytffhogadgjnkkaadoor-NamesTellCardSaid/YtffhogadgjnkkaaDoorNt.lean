/- The law's walk: 'topiarylaw01.NamesTell' returns true whatever the number and the text; the library's variables hold what they began with. -/
import Derived.Test.YtffhogadgjnkkaaDoorTell
namespace Go.Proofs.YtffhogadgjnkkaaDoor
open Go.RowKit

set_option maxHeartbeats 1000000 in
theorem tell_walk (t : Int) (s : ByteArray) (ht0 : -9223372036854775808 ≤ t) (ht1 : t ≤ 9223372036854775807) (hs : s.size ≤ 281474976710656) (w : World) (hv : Vars w) :
    Calls Tryd.prog 4 #[.int .i64 t, .string s] w fun e w' => e = .returned (.bool true) ∧ Below w.heap.size w w' := by
  have hm : s.size ≤ maxLen := by unfold maxLen; omega
  have R1 := Lib.hid (fun W => right_any s hm W)
  have R2 := Lib.hid (fun W => ref_right s hm W)
  have O1 := Lib.hid (fun W => own_any s hm W)
  have O2 := Lib.hid (fun W => ref_own s hm W)
  have F1 : Hid (∀ W, Below w.heap.size w W → Calls Tryd.prog 16 #[.int .i64 t, .string s] W fun e w' => e = .returned (.bool (fitsN t (bs s))) ∧ Below W.heap.size W w') := Lib.hid (fun W hW => fits_any t s hs W (hv.below hW))
  have F2 := Lib.hid (fun W => ref_fits t s hs W)
  generalize rightN (bs s) = a at R1 R2
  generalize ownN (bs s) = b at O1 O2
  generalize fitsN t (bs s) = c at F1 F2
  clear hv hm
  cases a
  all_goals cases b
  all_goals cases c
  all_goals
    go_enter Tryd.func4, Tryd.ntmps4
    go_wp2_with (first
      | (go_at_call 12; refine (R1.out _).mono ?_; rintro e w1 ⟨rfl, q1⟩)
      | (go_at_call 13; refine (R2.out _).mono ?_; rintro e w2 ⟨rfl, q2⟩)
      | (go_at_call 14; refine (O1.out _).mono ?_; rintro e w3 ⟨rfl, q3⟩)
      | (go_at_call 15; refine (O2.out _).mono ?_; rintro e w4 ⟨rfl, q4⟩
         have B4 : Hid (Below w.heap.size w w4) := Lib.hid ((((q1.trans q2).trans q3).trans q4).below _))
      | (go_at_call 16; refine (F1.out _ B4.out).mono ?_; rintro e w5 ⟨rfl, b5⟩
         have B5 : Hid (Below w.heap.size w w5) := Lib.hid (B4.out.trans (b5.mono B4.out.size)))
      | (go_at_call 17; refine (F2.out _).mono ?_; rintro e w6 ⟨rfl, b6⟩))
    go_ret
    exact ⟨rfl, B5.out.trans (b6.mono B5.out.size)⟩
end Go.Proofs.YtffhogadgjnkkaaDoor
