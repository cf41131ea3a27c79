/- - -/
import Derived.Test.YtdkoafmgenbkbaaGreatDoorKM10
set_option maxRecDepth 100000
set_option maxHeartbeats 32000000
set_option linter.unusedSimpArgs false
set_option linter.unusedVariables false
namespace Go.Proofs.YtdkoafmgenbkbaaGreatDoor
open Go.RowKit Go.ChangeShapes Go.WideShapes Go.Deep
theorem open_Ins {H : Type} {enc : TypeId × Value → H} {w : World} {n : Nat} {x : List Value} {d : DataW H × List MemPlace} (h : DataW.trod enc Tryz.prog w 0 (fun _ => true) true n 42 x = some d) (hl : Light Tryz.prog 42 d.1) : ∃ z, Ins.Is x z := by
  obtain ⟨hlen, m, hf⟩ := open_fields_light Tryz.underlying42 (by kernel_rfl) (by kernel_rfl) h hl
  obtain ⟨u0, u1, u2, u3, rfl⟩ := len4 hlen
  obtain ⟨u, y, hu, hy, hL⟩ := hf 0 _ rfl
  obtain rfl : u0 = u := by simpa using hu
  obtain ⟨a0, hk, _, b0⟩ := DataW.trod_int Tryz.underlying3 hy
  simp at hk
  subst hk
  clear hu hy hL
  obtain ⟨u, y, hu, hy, hL⟩ := hf 1 _ rfl
  obtain rfl : u1 = u := by simpa using hu
  obtain ⟨a1, hk, _, b1⟩ := DataW.trod_int Tryz.underlying3 hy
  simp at hk
  subst hk
  clear hu hy hL
  obtain ⟨u, y, hu, hy, hL⟩ := hf 2 _ rfl
  obtain rfl : u2 = u := by simpa using hu
  obtain ⟨a2, hk, _, b2⟩ := DataW.trod_int Tryz.underlying2 hy
  simp at hk
  subst hk
  clear hu hy hL
  obtain ⟨u, y, hu, hy, hL⟩ := hf 3 _ rfl
  obtain rfl : u3 = u := by simpa using hu
  obtain ⟨a3, rfl, b3⟩ := open_text Tryz.underlying9 hy hL
  clear hu hy hL
  exact ⟨⟨a0, a1, a2, a3⟩, rfl, b0, b1, b2, by show a3.size ≤ maxLen; unfold maxLen; omega⟩
theorem open_Code {H : Type} {enc : TypeId × Value → H} {w : World} {n : Nat} {x : List Value} {d : DataW H × List MemPlace} (h : DataW.trod enc Tryz.prog w 0 (fun _ => true) true n 24 x = some d) (hl : Light Tryz.prog 24 d.1) :
    ∃ (v : Value) (l : List Ins), x = [v] ∧ SlR w w.heap.size 4 Ins.Is v l ∧ Fit l.length 40 := by
  obtain ⟨hlen, m, hf⟩ := open_fields_light Tryz.underlying24 (by kernel_rfl) (by kernel_rfl) h hl
  obtain ⟨u0, rfl⟩ := len1 hlen
  obtain ⟨u, y, hu, hy, hL⟩ := hf 0 _ rfl
  obtain rfl : u0 = u := by simpa using hu
  obtain ⟨l, h1, h2⟩ := open_SlR_light (size := 4) (bytes := 40) Ins.Is Tryz.underlying22 (by kernel_rfl) (by omega) (by kernel_rfl) hy hL (fun _ _ _ _ h hl => open_Ins h hl)
  exact ⟨u0, l, rfl, h1, h2⟩
end Go.Proofs.YtdkoafmgenbkbaaGreatDoor
