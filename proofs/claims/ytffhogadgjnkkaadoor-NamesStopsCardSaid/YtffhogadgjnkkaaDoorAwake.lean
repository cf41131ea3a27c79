/- awake answers true; the library's variables hold what they began with. -/
import Derived.Test.YtffhogadgjnkkaaDoorUnq
import Derived.Test.YtffhogadgjnkkaaDoorTell
namespace Go.Proofs.YtffhogadgjnkkaaDoor
open Go.RowKit

set_option maxHeartbeats 2000000 in
set_option maxRecDepth 100000 in
theorem awake_any (w : World) (hv : Vars w) : Calls Tryd.prog 18 #[] w fun e w' => e = .returned (.bool true) ∧ Below w.heap.size w w' := by
  have I1 : Hid (∀ W, Below w.heap.size w W → Calls Tryd.prog 8 #[.string ⟨#[45, 49, 50]⟩] W fun e w' => e = .returned (.tuple #[.int .i64 (-12), .int .i64 0]) ∧ Below W.heap.size W w') := Lib.hid (fun W hW => int_any ⟨#[45, 49, 50]⟩ (by decide) W (hv.below hW))
  have I2 : Hid (∀ W, Below w.heap.size w W → Calls Tryd.prog 8 #[.string ⟨#[48, 48, 55]⟩] W fun e w' => e = .returned (.tuple #[.int .i64 0, .int .i64 2]) ∧ Below W.heap.size W w') := Lib.hid (fun W hW => int_any ⟨#[48, 48, 55]⟩ (by decide) W (hv.below hW))
  have U1 : Hid (∀ W, Calls Tryd.prog 20 #[.string ⟨#[34, 97, 92, 110, 34, 98]⟩, .int .i64 0] W fun e w' => e = .returned (.tuple #[.string ⟨#[97, 10]⟩, .int .i64 5, .int .i64 0]) ∧ Below W.heap.size W w') := Lib.hid (fun W => unquote_any ⟨#[34, 97, 92, 110, 34, 98]⟩ 0 (by decide) (by decide) W)
  have U2 : Hid (∀ W, Calls Tryd.prog 20 #[.string ⟨#[34, 92, 113, 34]⟩, .int .i64 0] W fun e w' => e = .returned (.tuple #[.string ⟨#[]⟩, .int .i64 2, .int .i64 10]) ∧ Below W.heap.size W w') := Lib.hid (fun W => unquote_any ⟨#[34, 92, 113, 34]⟩ 0 (by decide) (by decide) W)
  have R1 : Hid (∀ W, Calls Tryd.prog 12 #[.string ⟨#[66, 95, 57]⟩] W fun e w' => e = .returned (.bool true) ∧ Quiet W w') := Lib.hid (fun W => right_any ⟨#[66, 95, 57]⟩ (by decide) W)
  have R2 : Hid (∀ W, Calls Tryd.prog 12 #[.string ⟨#[95, 97]⟩] W fun e w' => e = .returned (.bool false) ∧ Quiet W w') := Lib.hid (fun W => right_any ⟨#[95, 97]⟩ (by decide) W)
  have O1 : Hid (∀ W, Calls Tryd.prog 14 #[.string ⟨#[63, 97]⟩] W fun e w' => e = .returned (.bool true) ∧ Quiet W w') := Lib.hid (fun W => own_any ⟨#[63, 97]⟩ (by decide) W)
  have F1 : Hid (∀ W, Below w.heap.size w W → Calls Tryd.prog 16 #[.int .i64 3, .string ⟨#[116, 114, 117, 101]⟩] W fun e w' => e = .returned (.bool true) ∧ Below W.heap.size W w') := Lib.hid (fun W hW => fits_any 3 ⟨#[116, 114, 117, 101]⟩ (by decide) W (hv.below hW))
  have hsh : txt (showN (-5)) = ⟨#[45, 53]⟩ := by
    unfold showN
    rw [if_pos (by omega), show (-5 : Int).natAbs = 5 from rfl, dec_small (by omega)]
    rfl
  have S1 : Hid (∀ W, Below w.heap.size w W → Calls Tryd.prog 10 #[.int .i64 (-5)] W fun e w' => e = .returned (.string ⟨#[45, 53]⟩) ∧ Below W.heap.size W w') := Lib.hid (fun W hW => by have := show_any (-5) (by omega) (by omega) W (hv.below hW); rw [hsh] at this; exact this)
  have Q1 : Hid (∀ W, Calls Tryd.prog 19 #[.string ⟨#[255]⟩] W fun e w' => e = .returned (.string ⟨#[34, 92, 120, 102, 102, 34]⟩) ∧ Below W.heap.size W w') := Lib.hid (fun W => quote_any ⟨#[255]⟩ (by decide) W)
  have tok1 : True := trivial
  have tok2 : True := trivial
  have tok3 : True := trivial
  clear hv hsh
  go_enter Tryd.func18, Tryd.ntmps18
  go_wp2_with (first
    | (go_at_call 8; have _t := tok1; refine (I1.out _ (Below.refl _ _)).mono ?_; rintro e w1 ⟨rfl, b1⟩; clear tok1 _t)
    | (go_at_call 8; refine (I2.out _ b1).mono ?_; rintro e w2 ⟨rfl, b2⟩
       have B2 : Hid (Below w.heap.size w w2) := Lib.hid (b1.trans (b2.mono b1.size)))
    | (go_at_call 20; have _t := tok2; refine (U1.out _).mono ?_; rintro e w3 ⟨rfl, b3⟩
       have B3 : Hid (Below w.heap.size w w3) := Lib.hid (B2.out.trans (b3.mono B2.out.size))
       clear tok2 _t)
    | (go_at_call 20; refine (U2.out _).mono ?_; rintro e w4 ⟨rfl, b4⟩
       have B4 : Hid (Below w.heap.size w w4) := Lib.hid (B3.out.trans (b4.mono B3.out.size)))
    | (go_at_call 12; have _t := tok3; refine (R1.out _).mono ?_; rintro e w5 ⟨rfl, q5⟩; clear tok3 _t)
    | (go_at_call 12; refine (R2.out _).mono ?_; rintro e w6 ⟨rfl, q6⟩)
    | (go_at_call 14; refine (O1.out _).mono ?_; rintro e w7 ⟨rfl, q7⟩
       have B7 : Hid (Below w.heap.size w w7) := Lib.hid (B4.out.trans ((((q5.trans q6).trans q7).below _))))
    | (go_at_call 16; refine (F1.out _ B7.out).mono ?_; rintro e w8 ⟨rfl, b8⟩
       have B8 : Hid (Below w.heap.size w w8) := Lib.hid (B7.out.trans (b8.mono B7.out.size)))
    | (go_at_call 10; refine (S1.out _ B8.out).mono ?_; rintro e w9 ⟨rfl, b9⟩
       have B9 : Hid (Below w.heap.size w w9) := Lib.hid (B8.out.trans (b9.mono B8.out.size)))
    | (go_at_call 19; refine (Q1.out _).mono ?_; rintro e wa ⟨rfl, ba⟩))
  go_ret
  exact ⟨rfl, B9.out.trans (ba.mono B9.out.size)⟩
end Go.Proofs.YtffhogadgjnkkaaDoor
