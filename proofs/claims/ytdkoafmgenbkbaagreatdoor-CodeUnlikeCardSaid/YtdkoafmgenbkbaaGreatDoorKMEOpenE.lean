/- - -/
import Derived.Test.YtdkoafmgenbkbaaGreatDoorKM10
set_option maxRecDepth 100000
set_option maxHeartbeats 32000000
set_option linter.unusedSimpArgs false
set_option linter.unusedVariables false
namespace Go.Proofs.YtdkoafmgenbkbaaGreatDoor
open Go.RowKit Go.ChangeShapes Go.WideShapes Go.Deep
theorem cellsI_ : Tryz.prog.cellsOf 3 = 1 := by kernel_rfl
theorem open_I {H : Type} {enc : TypeId × Value → H} {w : World} {n : Nat} {x : List Value} {d : DataW H × List MemPlace} (h : DataW.trod enc Tryz.prog w 0 (fun _ => true) true n 3 x = some d) : ∃ z, IsI x z ∧ -9223372036854775808 ≤ z ∧ z ≤ 9223372036854775807 := by
  obtain ⟨s, rfl, _, b⟩ := DataW.trod_int Tryz.underlying3 h
  have e1 : IntKind.i64.min = -9223372036854775808 := rfl
  have e2 : IntKind.i64.max = 9223372036854775807 := rfl
  exact ⟨s, rfl, by simpa [Lit.wf, e1, e2] using b⟩
theorem open_Node {H : Type} {enc : TypeId × Value → H} {w : World} {n : Nat} {x : List Value} {d : DataW H × List MemPlace} (h : DataW.trod enc Tryz.prog w 0 (fun _ => true) true n 45 x = some d) (hl : Light Tryz.prog 45 d.1) : ∃ z, ND.Is w w.heap.size x z ∧ NdOk z ∧ z.kids.length * 8 ≤ 140737488355328 := by
  obtain ⟨hlen, m, hf⟩ := open_fields_light Tryz.underlying45 (by kernel_rfl) (by kernel_rfl) h hl
  obtain ⟨u0, u1, u2, u3, rfl⟩ := len4 hlen
  obtain ⟨u, y, hu, hy, hL⟩ := hf 0 _ rfl
  obtain rfl : u0 = u := by simpa using hu
  obtain ⟨a0, hk, b0⟩ := open_I hy
  have hk : [u0] = [.int .i64 a0] := hk
  injection hk with hk
  subst hk
  clear hu hy hL
  obtain ⟨u, y, hu, hy, hL⟩ := hf 1 _ rfl
  obtain rfl : u1 = u := by simpa using hu
  obtain ⟨a1, rfl, b1⟩ := open_text Tryz.underlying9 hy hL
  clear hu hy hL
  obtain ⟨u, y, hu, hy, hL⟩ := hf 2 _ rfl
  obtain rfl : u2 = u := by simpa using hu
  obtain ⟨a2, hk, _, b2⟩ := DataW.trod_int Tryz.underlying2 hy
  simp at hk
  subst hk
  have e1 : IntKind.i64.min = -9223372036854775808 := rfl
  have e2 : IntKind.i64.max = 9223372036854775807 := rfl
  have b2' : -9223372036854775808 ≤ a2 ∧ a2 ≤ 9223372036854775807 := by simpa [Lit.wf, e1, e2] using b2
  clear hu hy hL
  obtain ⟨u, y, hu, hy, hL⟩ := hf 3 _ rfl
  obtain rfl : u3 = u := by simpa using hu
  obtain ⟨l, h1, h2⟩ := open_SlR_light (size := 1) (bytes := 8) IsI Tryz.underlying43 cellsI_ (by omega) (by kernel_rfl) hy hL (fun _ _ _ _ h _ => by obtain ⟨z, hz, _⟩ := open_I h; exact ⟨z, hz⟩)
  exact ⟨⟨a0, bs a1, a2, l⟩, ⟨u3, by simp [txt_bs], h1⟩, ⟨bs_bytes a1, by rw [bs_len]; omega, b2'.1, b2'.2⟩, h2⟩
theorem open_Expr {H : Type} {enc : TypeId × Value → H} {w : World} {n : Nat} {x : List Value} {d : DataW H × List MemPlace} (h : DataW.trod enc Tryz.prog w 0 (fun _ => true) true n 37 x = some d) (hl : Light Tryz.prog 37 d.1) :
    ∃ (v : Value) (l : List ND), x = [v] ∧ SlR w w.heap.size 4 (ND.Is w w.heap.size) v l ∧ (∀ d ∈ l, NdOk d) ∧ l.length * 56 ≤ 140737488355328 ∧ ∀ d ∈ l, d.kids.length * 8 ≤ 140737488355328 := by
  obtain ⟨hlen, m, hf⟩ := open_fields_light Tryz.underlying37 (by kernel_rfl) (by kernel_rfl) h hl
  obtain ⟨u0, rfl⟩ := len1 hlen
  obtain ⟨u, y, hu, hy, hL⟩ := hf 0 _ rfl
  obtain rfl : u0 = u := by simpa using hu
  obtain ⟨l, h1, h2⟩ := open_SlR_light (size := 4) (bytes := 56) (fun x z => ND.Is w w.heap.size x z ∧ NdOk z ∧ z.kids.length * 8 ≤ 140737488355328) Tryz.underlying35 (by kernel_rfl) (by omega) (by kernel_rfl) hy hL (fun _ _ _ _ h hl => open_Node h hl)
  have key : ∀ d ∈ l, NdOk d ∧ d.kids.length * 8 ≤ 140737488355328 := fun d hd => by
    obtain ⟨i, hi⟩ := List.mem_iff_getElem?.1 hd
    obtain ⟨a, c, rfl, _, _, h3⟩ := h1
    obtain ⟨b, off, _, _, hc⟩ := h3 (by have := (List.getElem?_eq_some_iff.1 hi).1; omega)
    obtain ⟨x, _, hx, _⟩ := hc i d hi
    exact hx.2
  exact ⟨u0, l, rfl, h1.imp fun _ _ h => h.1, fun d hd => (key d hd).1, h2, fun d hd => (key d hd).2⟩
end Go.Proofs.YtdkoafmgenbkbaaGreatDoor
