/- - - -/
import Derived.Test.YtpkggobhhieeoaaDoorKTpY
import Derived.Test.YtpkggobhhieeoaaDoorKTrP
set_option maxRecDepth 100000
set_option maxHeartbeats 32000000
set_option linter.unusedSimpArgs false
set_option linter.unusedVariables false
namespace Go.Proofs.YtpkggobhhieeoaaDoor
open Go.RowKit Go.ChangeShapes Go.WideShapes Go.Deep
structure Cell where
  kind : Int
  text : ByteArray
  mark : ByteArray
  deriving DecidableEq
def Cell.cells (d : Cell) : List Value := [.int .i64 d.kind, .string d.text, .string d.mark]
def Cell.ok (d : Cell) : Prop := (Lit.int .i64 d.kind).wf = true ∧ d.text.size ≤ maxLen ∧ d.mark.size ≤ maxLen
def Cell.Is (x : List Value) (d : Cell) : Prop := x = d.cells ∧ d.ok
theorem neq_CellP (y z : Cell) (b : Bool) (h : decide (y = z) = !b) (W : World) : (binOp .neq 30 (.agg #[.int .i64 y.kind, .string y.text, .string y.mark]) (.agg #[.int .i64 z.kind, .string z.text, .string z.mark])).run Tryd.prog W = .ok (.bool b) W := by
  obtain ⟨y0, y1, y2⟩ := y
  obtain ⟨z0, z1, z2⟩ := z
  go_simp
  simp only [toList_inj]
  cases b <;> simp at h
  all_goals first
    | (simp [h]; done)
    | (repeat' split
       all_goals simp_all)
theorem ref_pieces {l m : List Cell} {v v' : Value} (w w0 : World)
   (hs : SlR w0 w0.heap.size 3 Cell.Is v l) (ht : SlR w0 w0.heap.size 3 Cell.Is v' m) (hw : Below w0.heap.size w0 w) :
    Calls Tryd.prog 21 #[v, v'] w fun e w' => e = .returned (.bool (decide (l = m))) ∧ Quiet w w' := by
  obtain ⟨a, c, rfl⟩ : ∃ a c, v = .slice a l.length c := by obtain ⟨a, c, h, _⟩ := hs.form; exact ⟨a, c, h⟩
  obtain ⟨a', c', rfl⟩ : ∃ a c, v' = .slice a m.length c := by obtain ⟨a, c, h, _⟩ := ht.form; exact ⟨a, c, h⟩
  have hn : l.length ≤ 9223372036854775807 := by have := hs.caps; unfold maxLen at this; omega
  rw [← eqBy_eq]
  by_cases hl : l.length = m.length
  · obtain ⟨n, hlen⟩ : ∃ n, l.length = n := ⟨_, rfl⟩
    rw [← hl] at ht ⊢
    rw [hlen] at hs ht hn ⊢
    have Hlen := zH hlen
    have Hl := zH hl
    have Hs := zH hs
    have Ht := zH ht
    have Hw := zH hw
    clear hs ht hlen hw hl
    go_enter Tryd.func21, Tryd.ntmps21
    go_wp2_with fail
    go_loopw [4, 5] (fun _ j wr => ∃ k : Nat, k ≤ n ∧ j = .int .i64 k ∧ Quiet w wr ∧ Hid (∀ i y z, i < k → l[i]? = some y → m[i]? = some z → (fun a b => decide (a = b)) y z = true)) (fun _ j _ => n - (intOf j).toNat)
    case atStart => exact ⟨0, Nat.zero_le _, rfl, Quiet.refl _, fun i d _ hi => by omega⟩
    case round =>
      obtain ⟨k, hk, rfl, hq, hf⟩ := hrel
      have hb := hq.below w.heap.size
      by_cases hlt : k < n
      · obtain ⟨y, hd⟩ := get_some Hlen.out hlt
        obtain ⟨z, he⟩ := get_some (Hl.out.symm.trans Hlen.out) hlt
        have hw1 := Hw.out.trans (hb.mono Hw.out.size)
        obtain ⟨b, off, x, rfl, hbB, hxl, ⟨rfl, _⟩, hx⟩ := (Hs.out.below hw1).at_ hd
        obtain ⟨b', off', x', rfl, hbB', hxl', ⟨rfl, _⟩, hx'⟩ := (Ht.out.below hw1).at_ he
        have h0 := hx 0 _ rfl
        have h1 := hx 1 _ rfl
        have h2 := hx 2 _ rfl
        have g0 := hx' 0 _ rfl
        have g1 := hx' 1 _ rfl
        have g2 := hx' 2 _ rfl
        simp only [Nat.add_zero] at h0 g0
        have Hd := zH hd
        have He := zH he
        clear hd he hx hxl hx' hxl' hw1
        by_cases hyz : y = z
        · have hne := fun W => neq_CellP y z false (by simpa using hyz) W
          have Hyz := zH hyz
          clear hyz
          go_wp2_with fail
          go_quiet (fail)
          go_wp2_with fail
          go_roundw
          case rel => exact ⟨k + 1, by omega, by go_num, hq.drewN _, so_far Hd.out He.out (by simpa using Hyz.out) hf.out⟩
          case measure => simp [intOf]; omega
        · have hne := fun W => neq_CellP y z true (by simpa using hyz) W
          have Hyz := zH hyz
          clear hyz
          go_wp2_with fail
          go_quiet (fail)
          go_wp2_with fail
          go_ret
          exact ⟨by rw [eqBy_no _ l m k y z Hd.out He.out (by simpa using Hyz.out)]; rfl, hq.drewN _⟩
      · have hge : n ≤ k := by omega
        clear hlt
        go_wp2_with fail
        go_ret
        exact ⟨by rw [eqBy_yes _ l m Hl.out (fun i y z hi => hf.out i y z (by have := Hlen.out; omega))]; rfl, hq⟩
  · have hne : ((l.length : Int) != (m.length : Int)) = true := by rw [bne_iff_ne]; omega
    have Hl := zH hl
    clear hl hs ht hw
    go_enter Tryd.func21, Tryd.ntmps21
    go_wp2_with fail
    go_ret
    exact ⟨by rw [eqBy_len _ l m Hl.out]; rfl, Quiet.refl _⟩
theorem same_pieces {l m : List Cell} {v v' : Value} (w w0 : World)
   (hs : SlR w0 w0.heap.size 3 Cell.Is v l) (ht : SlR w0 w0.heap.size 3 Cell.Is v' m) (hw : Below w0.heap.size w0 w) :
    Calls Tryd.prog 9 #[v, v'] w fun e w' => e = .returned (.bool (decide (l = m))) ∧ Quiet w w' := by
  have H := zH (fun W hW => ref_pieces W w0 hs ht hW)
  obtain ⟨a, n, c, rfl⟩ := hs.form'
  obtain ⟨a', n', c', rfl⟩ := ht.form'
  have HW := zH hw
  clear hs ht hw
  go_enter Tryd.func9, Tryd.ntmps9
  go_wp2_with (go_at_call 21; (refine (H.out _ HW.out).mono ?_); rintro e w1 ⟨rfl, h1⟩)
  go_ret
  exact ⟨rfl, h1⟩
def Pc.cell (p : Pc) : Cell := ⟨p.kind, txt p.text, txt p.mark⟩
theorem Pc.toCell {x : List Value} {p : Pc} (h : Pc.Is x p) : Cell.Is x p.cell := by
  obtain ⟨rfl, h1, h2, h3, h4, h5⟩ := h
  exact ⟨rfl, h5, by show (txt p.text).size ≤ maxLen; rw [txt_size]; unfold maxLen; omega, by show (txt p.mark).size ≤ maxLen; rw [txt_size]; unfold maxLen; omega⟩
theorem SlR.cells {X : World} {B : Nat} {v : Value} {l : List Pc} (h : SlR X B 3 Pc.Is v l) : SlR X B 3 Cell.Is v (l.map Pc.cell) := by
  obtain ⟨a, c, rfl, h1, h2, h3⟩ := h
  refine ⟨a, c, by rw [List.length_map], by rw [List.length_map]; exact h1, h2, fun hl => ?_⟩
  rw [List.length_map] at hl
  obtain ⟨b, off, hb, hlt, hat⟩ := h3 hl
  refine ⟨b, off, hb, hlt, fun i y hy => ?_⟩
  rw [List.getElem?_map] at hy
  cases he : l[i]? with
  | none => rw [he] at hy; cases hy
  | some p =>
    rw [he] at hy
    injection hy with hy
    subst hy
    obtain ⟨x, hx, hR, hc⟩ := hat i p he
    exact ⟨x, hx, Pc.toCell hR, hc⟩
end Go.Proofs.YtpkggobhhieeoaaDoor
namespace Go.Proofs.YtpkggobhhieeoaaDoor
open Go.RowKit
theorem Own1.blk {α : Type} {w : World} {base size n c : Nat} {e : TypeId} {R : List Value → α → Prop} {a : Option Addr} {l : List α} (h : Own1 w base e size R (.slice a n c) l) : n = 0 ∨ ∃ g cs, a = some ⟨g, 0, none⟩ ∧ base ≤ g ∧ g < w.heap.size ∧ Blk w g e cs ∧ n * size ≤ cs.size := by
  obtain ⟨xs, ⟨h1, h2⟩, h3, h4⟩ := h
  rcases h2 with ⟨h2, h5⟩ | ⟨g, cap, cur, r1, r2, r3, r4, r5, r6, r7⟩
  · left
    injection h2
  · right
    injection r1 with e1 e2 e3
    have hb : Blk w g e cur := r3
    refine ⟨g, cur, e1, r2, hb.lt, hb, ?_⟩
    rw [e2, r6]
    exact Nat.mul_le_mul_right _ r4
structure OverT (w : World) (c1 : Nat) (wr : World) (ac : Option Addr) (nc : Nat) (dv : Value) (ps : List Pc) : Prop where
  bel : Below w.heap.size w wr
  row : nc = 0 ∨ ∃ g cs, ac = some ⟨g, 0, none⟩ ∧ w.heap.size ≤ g ∧ g < c1 ∧ Blk wr g 30 cs ∧ nc * 3 ≤ cs.size
  drow : Own1 wr c1 30 3 Pc.Is dv ps
theorem OverT.store {w wr : World} {c1 nc : Nat} {ac : Option Addr} {dv : Value} {ps : List Pc} {g : Nat} (h : OverT w c1 wr ac nc dv ps) {cs : Array Value} (hg : ac = some ⟨g, 0, none⟩) (hC : w.heap.size ≤ g) (hg1 : g < c1) (hb : Blk wr g 30 cs) (hsz : nc * 3 ≤ cs.size) (i : Nat) (u : Value) :
    OverT w c1 (wr.setCell ⟨g, i, none⟩ u) ac nc dv ps ∧ ∃ cs', Blk (wr.setCell ⟨g, i, none⟩ u) g 30 cs' ∧ nc * 3 ≤ cs'.size := by
  have h2 := hb.set_ i u
  exact ⟨⟨h.bel.setCell (p := ⟨g, i, none⟩) hC u, .inr ⟨g, _, hg, hC, hg1, h2, by rw [Array.size_setIfInBounds]; exact hsz⟩, h.drow.setFar (p := ⟨g, i, none⟩) (by show g < c1; exact hg1) u⟩, _, h2, by rw [Array.size_setIfInBounds]; exact hsz⟩
theorem own_cells {X Y : World} {base : Nat} {v : Value} {ps : List Pc} (h : Own1 X base 30 3 Pc.Is v ps) (hb : Below X.heap.size X Y) : SlR Y Y.heap.size 3 Cell.Is v (ps.map Pc.cell) := ((h.below hb zL).read (by decide)).cells
theorem lawTp (s : ByteArray) (hs : s.size ≤ maxLen) (w : World) (hm : Marks w) (hg : Signs w) :
    Calls Tryd.prog 3 #[.string s] w fun e w' => e = .returned (.bool true) ∧ Below w.heap.size w w' := by
  have h4w : 4 < w.heap.size := by
    obtain ⟨t, fr, h⟩ := signs_block hg
    rcases Nat.lt_or_ge 4 w.heap.size with h0 | h0
    · exact h0
    · rw [Array.getElem?_eq_none h0] at h; cases h
  obtain ⟨⟨ps, at_, er⟩, hR⟩ : ∃ z, rowN (bs s) = z := ⟨_, rfl⟩
  have PP := zH (fun W (hW : Below w.heap.size w W) => (show Calls Tryd.prog 7 #[.string s] W (RowIs W (ps, at_, er)) by have := row_any s hs W (hm.below hW) (hg.of_block (hW.block 4 h4w)); rwa [hR] at this))
  have RP := zH (fun W => (show Calls Tryd.prog 8 #[.string s] W (RowIs W (ps, at_, er)) by have := rrow_any s hs W; rwa [hR] at this))
  have e1 : ((at_ : Int) != (at_ : Int)) = false := by simp
  have e2 : ((er : Int) != (er : Int)) = false := by simp
  obtain ⟨n, hn⟩ : ∃ n, ps.length = n := ⟨_, rfl⟩
  have HN := zH hn
  clear hm hg hR hs hn h4w
  have tokA : True := trivial
  go_enter Tryd.func3, Tryd.ntmps3
  go_upto_region 5 with (first
    | (have _t := tokA; go_at_call 7; go_must (refine (PP.out _ zB).mono ?_); clear tokA _t; rintro e w1 ⟨v1, rfl, h1, h2⟩; obtain ⟨ac, cc, rfl⟩ := h1.form; go_must (rw [HN.out] at h1 ⊢); go_must (have O1 := zH h1); go_must (have B1 := zH h2); clear h1 h2)
    | (go_at_call 8; go_must (refine (RP.out _).mono ?_); rintro e w2 ⟨v2, rfl, h1, h2⟩; obtain ⟨ad, cd, rfl⟩ := h1.form; go_must (rw [HN.out] at h1 ⊢); go_must (have O2 := zH h1); go_must (have B2 := zH h2); go_must (have SM : Hid (Calls Tryd.prog 9 #[.slice ac n cc, .slice ad n cd] w2 fun e w' => e = .returned (.bool true) ∧ Quiet w2 w') := zH (by have := same_pieces w2 w2 (own_cells O1.out h2) (own_cells h1 zB) zB; simpa using this)); clear h1 h2)
    | (go_at_call 9; go_must (refine SM.out.mono ?_); rintro e w3 ⟨rfl, h1⟩; go_must (have Q3 := zH h1); clear h1))
  have OV : Hid (OverT w w1.heap.size w3 ac n (.slice ad n cd) ps) := zH (by
    obtain ⟨q, hq⟩ := Q3.out
    subst hq
    refine ⟨below_drewN (B1.out.trans (B2.out.mono B1.out.size)) q, ?_, O2.out.drewN q⟩
    rcases O1.out.blk with h | ⟨g, cs, h1, h2, h3, h4, h5⟩
    · exact .inl h
    · exact .inr ⟨g, cs, h1, h2, h3, (h4.below (below_drewN B2.out q) h3), h5⟩)
  go_wp2_with fail
  go_loopw [9] (fun v9 wr => ∃ i : Nat, i ≤ n ∧ v9 = .int .i64 (i : Int) ∧ Hid (OverT w w1.heap.size wr ac n (.slice ad n cd) ps)) (fun v9 _ => n - (intOf v9).toNat)
  case atStart => exact ⟨0, Nat.zero_le _, rfl, OV⟩
  case round =>
    obtain ⟨i, hi, rfl, hov⟩ := hrel
    have i0 : (0 : Int) ≤ (i : Int) := Int.natCast_nonneg _
    by_cases hlt : i < n
    · rcases hov.out.row with h0 | ⟨g, cs, rfl, h2, h3, h4, h5⟩
      · omega
      · have i1 : (i : Int) < (n : Int) := by omega
        have i63 : (i : Int) ≤ 9223372036854775806 := by
          have := (hov.out.drow.read (by decide)).caps
          unfold maxLen at this
          omega
        have H45 := zH (And.intro h4 h5)
        have fz := h4.frozen
        obtain ⟨u0, hu0⟩ : ∃ u, cs[i * 3]? = some u := ⟨cs[i * 3]'(by omega), Array.getElem?_eq_getElem _⟩
        obtain ⟨u1, hu1⟩ : ∃ u, cs[i * 3 + 1]? = some u := ⟨cs[i * 3 + 1]'(by omega), Array.getElem?_eq_getElem _⟩
        obtain ⟨u2, hu2⟩ : ∃ u, cs[i * 3 + 2]? = some u := ⟨cs[i * 3 + 2]'(by omega), Array.getElem?_eq_getElem _⟩
        have y0 : wr.cell? ⟨g, i * 3, none⟩ = some u0 := h4.cell hu0
        have y1 : wr.cell? ⟨g, i * 3 + 1, none⟩ = some u1 := h4.cell hu1
        have y2 : wr.cell? ⟨g, i * 3 + 2, none⟩ = some u2 := h4.cell hu2
        have z0 : wr.frozen? ⟨g, i * 3, none⟩ = false := fz _
        have z1 : wr.frozen? ⟨g, i * 3 + 1, none⟩ = false := fz _
        have z2 : wr.frozen? ⟨g, i * 3 + 2, none⟩ = false := fz _
        clear h4 h5 hu0 hu1 hu2 fz
        go_wp2_with fail
        go_roundw
        case rel =>
          obtain ⟨o1, c1, b1, s1⟩ := hov.out.store rfl h2 h3 H45.out.1 H45.out.2 (i * 3) (.int .i64 (-1))
          obtain ⟨o2, c2, b2, s2⟩ := o1.store rfl h2 h3 b1 s1 (i * 3 + 1) (.string ⟨#[]⟩)
          obtain ⟨o3, c3, b3, s3⟩ := o2.store rfl h2 h3 b2 s2 (i * 3 + 2) (.string ⟨#[]⟩)
          exact ⟨i + 1, by omega, by go_num, zH o3⟩
        case measure => simp [intOf]; omega
    · have hin : i = n := by omega
      subst hin
      have tokB : True := trivial
      clear hlt hi
      go_wp2_with (first
        | (go_at_call 7; go_must (refine (PP.out _ hov.out.bel).mono ?_); rintro e w5 ⟨v3, rfl, h1, h2⟩; obtain ⟨ae, ce, rfl⟩ := h1.form; go_must (rw [HN.out] at h1 ⊢); go_must (have B5 := zH h2); go_must (have SM5 : Hid (Calls Tryd.prog 9 #[.slice ae i ce, .slice ad i cd] w5 fun e w' => e = .returned (.bool true) ∧ Quiet w5 w') := zH (by have := same_pieces w5 w5 (own_cells h1 zB) (own_cells hov.out.drow h2) zB; simpa using this)); clear h1 h2)
        | (go_at_call 9; go_must (refine SM5.out.mono ?_); rintro e w6 ⟨rfl, h1⟩; go_must (have Q6 := zH h1); clear h1))
      go_ret
      exact ⟨rfl, (hov.out.bel.trans (B5.out.mono hov.out.bel.size)).trans (Q6.out.below _)⟩
end Go.Proofs.YtpkggobhhieeoaaDoor
