/- - -/
import Derived.Test.YtpkggobhhieeoaaDoorKM8
import Derived.Test.YtpkggobhhieeoaaDoorKM5
set_option maxRecDepth 100000
set_option maxHeartbeats 32000000
set_option linter.unusedSimpArgs false
set_option linter.unusedVariables false
namespace Go.Proofs.YtpkggobhhieeoaaDoor
open Go.RowKit Go.ChangeShapes Go.WideShapes Go.Deep
structure Cell where
  kind : Int
  text : ByteArray
  mark : ByteArray
  deriving DecidableEq
def Cell.cells (d : Cell) : List Value := [.int .i64 d.kind, .string d.text, .string d.mark]
def Cell.ok (d : Cell) : Prop := (Lit.int .i64 d.kind).wf = true ∧ d.text.size ≤ maxLen ∧ d.mark.size ≤ maxLen
def Cell.Is (x : List Value) (d : Cell) : Prop := x = d.cells ∧ d.ok
theorem neq_CellP (y z : Cell) (b : Bool) (h : decide (y = z) = !b) (W : World) : (binOp .neq 30 (.agg #[.int .i64 y.kind, .string y.text, .string y.mark]) (.agg #[.int .i64 z.kind, .string z.text, .string z.mark])).run Tryd.prog W = .ok (.bool b) W := by
  obtain ⟨y0, y1, y2⟩ := y
  obtain ⟨z0, z1, z2⟩ := z
  go_simp
  simp only [toList_inj]
  cases b <;> simp at h
  all_goals first
    | (simp [h]; done)
    | (repeat' split
       all_goals simp_all)
theorem ref_pieces {l m : List Cell} {v v' : Value} (w w0 : World)
   (hs : SlR w0 w0.heap.size 3 Cell.Is v l) (ht : SlR w0 w0.heap.size 3 Cell.Is v' m) (hw : Below w0.heap.size w0 w) :
    Calls Tryd.prog 21 #[v, v'] w fun e w' => e = .returned (.bool (decide (l = m))) ∧ Quiet w w' := by
  obtain ⟨a, c, rfl⟩ : ∃ a c, v = .slice a l.length c := by obtain ⟨a, c, h, _⟩ := hs.form; exact ⟨a, c, h⟩
  obtain ⟨a', c', rfl⟩ : ∃ a c, v' = .slice a m.length c := by obtain ⟨a, c, h, _⟩ := ht.form; exact ⟨a, c, h⟩
  have hn : l.length ≤ 9223372036854775807 := by have := hs.caps; unfold maxLen at this; omega
  rw [← eqBy_eq]
  by_cases hl : l.length = m.length
  · obtain ⟨n, hlen⟩ : ∃ n, l.length = n := ⟨_, rfl⟩
    rw [← hl] at ht ⊢
    rw [hlen] at hs ht hn ⊢
    have Hlen := zH hlen
    have Hl := zH hl
    have Hs := zH hs
    have Ht := zH ht
    have Hw := zH hw
    clear hs ht hlen hw hl
    go_enter Tryd.func21, Tryd.ntmps21
    go_wp2_with fail
    go_loopw [4, 5] (fun _ j wr => ∃ k : Nat, k ≤ n ∧ j = .int .i64 k ∧ Quiet w wr ∧ Hid (∀ i y z, i < k → l[i]? = some y → m[i]? = some z → (fun a b => decide (a = b)) y z = true)) (fun _ j _ => n - (intOf j).toNat)
    case atStart => exact ⟨0, Nat.zero_le _, rfl, Quiet.refl _, fun i d _ hi => by omega⟩
    case round =>
      obtain ⟨k, hk, rfl, hq, hf⟩ := hrel
      have hb := hq.below w.heap.size
      by_cases hlt : k < n
      · obtain ⟨y, hd⟩ := get_some Hlen.out hlt
        obtain ⟨z, he⟩ := get_some (Hl.out.symm.trans Hlen.out) hlt
        have hw1 := Hw.out.trans (hb.mono Hw.out.size)
        obtain ⟨b, off, x, rfl, hbB, hxl, ⟨rfl, _⟩, hx⟩ := (Hs.out.below hw1).at_ hd
        obtain ⟨b', off', x', rfl, hbB', hxl', ⟨rfl, _⟩, hx'⟩ := (Ht.out.below hw1).at_ he
        have h0 := hx 0 _ rfl
        have h1 := hx 1 _ rfl
        have h2 := hx 2 _ rfl
        have g0 := hx' 0 _ rfl
        have g1 := hx' 1 _ rfl
        have g2 := hx' 2 _ rfl
        simp only [Nat.add_zero] at h0 g0
        have Hd := zH hd
        have He := zH he
        clear hd he hx hxl hx' hxl' hw1
        by_cases hyz : y = z
        · have hne := fun W => neq_CellP y z false (by simpa using hyz) W
          have Hyz := zH hyz
          clear hyz
          go_wp2_with fail
          go_quiet (fail)
          go_wp2_with fail
          go_roundw
          case rel => exact ⟨k + 1, by omega, by go_num, hq.drewN _, so_far Hd.out He.out (by simpa using Hyz.out) hf.out⟩
          case measure => simp [intOf]; omega
        · have hne := fun W => neq_CellP y z true (by simpa using hyz) W
          have Hyz := zH hyz
          clear hyz
          go_wp2_with fail
          go_quiet (fail)
          go_wp2_with fail
          go_ret
          exact ⟨by rw [eqBy_no _ l m k y z Hd.out He.out (by simpa using Hyz.out)]; rfl, hq.drewN _⟩
      · have hge : n ≤ k := by omega
        clear hlt
        go_wp2_with fail
        go_ret
        exact ⟨by rw [eqBy_yes _ l m Hl.out (fun i y z hi => hf.out i y z (by have := Hlen.out; omega))]; rfl, hq⟩
  · have hne : ((l.length : Int) != (m.length : Int)) = true := by rw [bne_iff_ne]; omega
    have Hl := zH hl
    clear hl hs ht hw
    go_enter Tryd.func21, Tryd.ntmps21
    go_wp2_with fail
    go_ret
    exact ⟨by rw [eqBy_len _ l m Hl.out]; rfl, Quiet.refl _⟩
theorem same_pieces {l m : List Cell} {v v' : Value} (w w0 : World)
   (hs : SlR w0 w0.heap.size 3 Cell.Is v l) (ht : SlR w0 w0.heap.size 3 Cell.Is v' m) (hw : Below w0.heap.size w0 w) :
    Calls Tryd.prog 9 #[v, v'] w fun e w' => e = .returned (.bool (decide (l = m))) ∧ Quiet w w' := by
  have H := zH (fun W hW => ref_pieces W w0 hs ht hW)
  obtain ⟨a, n, c, rfl⟩ := hs.form'
  obtain ⟨a', n', c', rfl⟩ := ht.form'
  have HW := zH hw
  clear hs ht hw
  go_enter Tryd.func9, Tryd.ntmps9
  go_wp2_with (go_at_call 21; (refine (H.out _ HW.out).mono ?_); rintro e w1 ⟨rfl, h1⟩)
  go_ret
  exact ⟨rfl, h1⟩
def Pc.cell (p : Pc) : Cell := ⟨p.kind, txt p.text, txt p.mark⟩
theorem Pc.toCell {x : List Value} {p : Pc} (h : Pc.Is x p) : Cell.Is x p.cell := by
  obtain ⟨rfl, h1, h2, h3, h4, h5⟩ := h
  exact ⟨rfl, h5, by show (txt p.text).size ≤ maxLen; rw [txt_size]; unfold maxLen; omega, by show (txt p.mark).size ≤ maxLen; rw [txt_size]; unfold maxLen; omega⟩
theorem SlR.cells {X : World} {B : Nat} {v : Value} {l : List Pc} (h : SlR X B 3 Pc.Is v l) : SlR X B 3 Cell.Is v (l.map Pc.cell) := by
  obtain ⟨a, c, rfl, h1, h2, h3⟩ := h
  refine ⟨a, c, by rw [List.length_map], by rw [List.length_map]; exact h1, h2, fun hl => ?_⟩
  rw [List.length_map] at hl
  obtain ⟨b, off, hb, hlt, hat⟩ := h3 hl
  refine ⟨b, off, hb, hlt, fun i y hy => ?_⟩
  rw [List.getElem?_map] at hy
  cases he : l[i]? with
  | none => rw [he] at hy; cases hy
  | some p =>
    rw [he] at hy
    injection hy with hy
    subst hy
    obtain ⟨x, hx, hR, hc⟩ := hat i p he
    exact ⟨x, hx, Pc.toCell hR, hc⟩
end Go.Proofs.YtpkggobhhieeoaaDoor
