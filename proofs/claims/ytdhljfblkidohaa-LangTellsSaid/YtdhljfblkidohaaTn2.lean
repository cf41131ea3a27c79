import Derived.Test.YtdhljfblkidohaaTn
import Derived.WalkSpells
import Derived.Deep.RegionHeld3
import Derived.Deep.AppendLies
import Derived.Outline
namespace Go.Proofs.Ytdhljfblkidohaa
set_option linter.unusedSimpArgs false
set_option linter.unusedVariables false
open Go.RowKit

theorem Rule.Is.one (x : List Value) (y : Rule) (h : Rule.Is x y) : ∀ u ∈ x, u.oneCell' = true := by
  intro u hu; rw [h.1] at hu; simp [Rule.cells] at hu; rcases hu with rfl | rfl | rfl | rfl <;> rfl

theorem keep_grown {w w' : World} {o : Obj} {row : Option Nat} (hg : (w.alloc o).grownBy w' row) {p : Addr} {u : Value} (hc : w.cell? p = some u) (hne : some p.block ≠ row) : w'.cell? p = some u :=
  (hg.cell_far p (by rw [World.size_alloc]; have := cell_lt hc; omega) hne).trans ((World.cell?_alloc_lt _ _ _ (cell_lt hc)).trans hc)
theorem keep_alloc {w : World} {o : Obj} {p : Addr} {u : Value} (hc : w.cell? p = some u) : (w.alloc o).cell? p = some u := (World.cell?_alloc_lt _ _ _ (cell_lt hc)).trans hc
theorem STF (W0 : World) (g : Nat) (u7 r0 r1 r2 r3 r4 r5 r6 r7 : Value) : Stays W0 (((((((((W0.setCell ⟨g, 7, none⟩ u7).setCell ⟨g + 1, 0, none⟩ r0).setCell ⟨g + 1, 1, none⟩ r1).setCell ⟨g + 1, 2, none⟩ r2).setCell ⟨g + 1, 3, none⟩ r3).setCell ⟨g + 1, 4, none⟩ r4).setCell ⟨g + 1, 5, none⟩ r5).setCell ⟨g + 1, 6, none⟩ r6).setCell ⟨g + 1, 7, none⟩ r7) (g + 1 + 1) (fun _ => false) := (((((((((Stays.of_set (w := W0) (base := g + 1 + 1) (p := ⟨g, 7, none⟩) (by show g < _; omega) u7).trans (Stays.of_set (base := g + 1 + 1) (p := ⟨g + 1, 0, none⟩) (by show g + 1 < _; omega) r0)).trans (Stays.of_set (base := g + 1 + 1) (p := ⟨g + 1, 1, none⟩) (by show g + 1 < _; omega) r1)).trans (Stays.of_set (base := g + 1 + 1) (p := ⟨g + 1, 2, none⟩) (by show g + 1 < _; omega) r2)).trans (Stays.of_set (base := g + 1 + 1) (p := ⟨g + 1, 3, none⟩) (by show g + 1 < _; omega) r3)).trans (Stays.of_set (base := g + 1 + 1) (p := ⟨g + 1, 4, none⟩) (by show g + 1 < _; omega) r4)).trans (Stays.of_set (base := g + 1 + 1) (p := ⟨g + 1, 5, none⟩) (by show g + 1 < _; omega) r5)).trans (Stays.of_set (base := g + 1 + 1) (p := ⟨g + 1, 6, none⟩) (by show g + 1 < _; omega) r6)).trans (Stays.of_set (base := g + 1 + 1) (p := ⟨g + 1, 7, none⟩) (by show g + 1 < _; omega) r7))
theorem BLF {w : World} (W0 : World) (g : Nat) (u7 r0 r1 r2 r3 r4 r5 r6 r7 : Value) (h : Below g w W0) : Below g w (((((((((W0.setCell ⟨g, 7, none⟩ u7).setCell ⟨g + 1, 0, none⟩ r0).setCell ⟨g + 1, 1, none⟩ r1).setCell ⟨g + 1, 2, none⟩ r2).setCell ⟨g + 1, 3, none⟩ r3).setCell ⟨g + 1, 4, none⟩ r4).setCell ⟨g + 1, 5, none⟩ r5).setCell ⟨g + 1, 6, none⟩ r6).setCell ⟨g + 1, 7, none⟩ r7) := (((((((((h.setCell (p := ⟨g, 7, none⟩) (Nat.le_refl _) u7).setCell (p := ⟨g + 1, 0, none⟩) (by show g ≤ g + 1; omega) r0).setCell (p := ⟨g + 1, 1, none⟩) (by show g ≤ g + 1; omega) r1).setCell (p := ⟨g + 1, 2, none⟩) (by show g ≤ g + 1; omega) r2).setCell (p := ⟨g + 1, 3, none⟩) (by show g ≤ g + 1; omega) r3).setCell (p := ⟨g + 1, 4, none⟩) (by show g ≤ g + 1; omega) r4).setCell (p := ⟨g + 1, 5, none⟩) (by show g ≤ g + 1; omega) r5).setCell (p := ⟨g + 1, 6, none⟩) (by show g ≤ g + 1; omega) r6).setCell (p := ⟨g + 1, 7, none⟩) (by show g ≤ g + 1; omega) r7)
theorem Editor.Own.mono {w : World} {base base' : Nat} {x : List Value} {d : Editor} (h : Editor.Own w base x d) (hb : base' ≤ base) : Editor.Own w base' x d := by
  obtain ⟨v, e, r, q⟩ := h
  exact ⟨v, e, r.mono hb, q⟩
theorem Template.Own.mono {w : World} {base base' : Nat} {x : List Value} {d : Template} (h : Template.Own w base x d) (hb : base' ≤ base) : Template.Own w base' x d := by
  obtain ⟨v, e, r, q⟩ := h
  exact ⟨v, e, r.mono hb, q⟩
theorem Equation.Own.mono {w : World} {base base' : Nat} {x : List Value} {d : Equation} (h : Equation.Own w base x d) (hb : base' ≤ base) : Equation.Own w base' x d := by
  obtain ⟨v1, v2, e, r1, r2, q⟩ := h
  exact ⟨v1, v2, e, (r1.imp fun _ _ r => r.mono hb).mono hb, (r2.imp fun _ _ r => r.mono hb).mono hb, q⟩
theorem infoL_Cell : (Try.prog.info? 74).map (fun i => (i.zero, i.size, i.bytes)) = some (some (.agg #[.int .i64 0, .string .empty, .string .empty]), 3, 40) := by kernel_rfl
theorem infoL_Piece : (Try.prog.info? 78).map (fun i => (i.zero, i.size, i.bytes)) = some (some (.agg #[.int .i64 0, .string .empty, .string .empty]), 3, 40) := by kernel_rfl
theorem Cell.Is.one (x : List Value) (y : Cell) (h : Cell.Is x y) : ∀ u ∈ x, u.oneCell' = true := by
  intro u hu; rw [h.1] at hu; simp [Cell.cells] at hu; rcases hu with rfl | rfl | rfl <;> rfl

set_option maxHeartbeats 4000000 in
set_option maxRecDepth 100000 in
theorem twin_any {x : List Value} {d : Language} (w w0 : World) (h : Language.Is w0 w0.heap.size x d) (hw : Below w0.heap.size w0 w) :
    Calls Try.prog 8 #[.agg x.toArray] w fun e w' => ∃ x', e = .returned (.agg x'.toArray) ∧ Language.Own w' w.heap.size x' d ∧ Below w.heap.size w w' := by
  obtain ⟨v2, v3, v4, v5, v6, v7, rfl, s2, s3, s4, s5, s6, s7, hfit, hrest⟩ := h
  obtain ⟨j2, hi, hz, hs, hb⟩ := info_parts infoL_text
  have I2 := Lib.hid (And.intro hi (And.intro hz (And.intro hs hb)))
  clear hi hz hs hb
  obtain ⟨pa2, n2, pc2, rfl⟩ := s2.form'
  have G2 : n2 * 16 ≤ 140737488355328 := by have := hfit.1; rw [← s2.len] at this; exact this
  have F2 : n2 ≤ maxLen := by unfold maxLen; omega
  have S2 := Lib.hid s2
  clear s2
  obtain ⟨j3, hi, hz, hs, hb⟩ := info_parts infoL_Concept
  have I3 := Lib.hid (And.intro hi (And.intro hz (And.intro hs hb)))
  clear hi hz hs hb
  obtain ⟨pa3, n3, pc3, rfl⟩ := s3.form'
  have G3 : n3 * 112 ≤ 140737488355328 := by have := hfit.2.1; rw [← s3.len] at this; exact this
  have F3 : n3 ≤ maxLen := by unfold maxLen; omega
  have S3 := Lib.hid s3
  clear s3
  obtain ⟨j4, hi, hz, hs, hb⟩ := info_parts infoL_Rule
  have I4 := Lib.hid (And.intro hi (And.intro hz (And.intro hs hb)))
  clear hi hz hs hb
  obtain ⟨pa4, n4, pc4, rfl⟩ := s4.form'
  have G4 : n4 * 56 ≤ 140737488355328 := by have := hfit.2.2.1; rw [← s4.len] at this; exact this
  have F4 : n4 ≤ maxLen := by unfold maxLen; omega
  have S4 := Lib.hid s4
  clear s4
  obtain ⟨j5, hi, hz, hs, hb⟩ := info_parts infoL_Equation
  have I5 := Lib.hid (And.intro hi (And.intro hz (And.intro hs hb)))
  clear hi hz hs hb
  obtain ⟨pa5, n5, pc5, rfl⟩ := s5.form'
  have G5 : n5 * 64 ≤ 140737488355328 := by have := hfit.2.2.2.1; rw [← s5.len] at this; exact this
  have F5 : n5 ≤ maxLen := by unfold maxLen; omega
  have S5 := Lib.hid s5
  clear s5
  obtain ⟨j6, hi, hz, hs, hb⟩ := info_parts infoL_Editor
  have I6 := Lib.hid (And.intro hi (And.intro hz (And.intro hs hb)))
  clear hi hz hs hb
  obtain ⟨pa6, n6, pc6, rfl⟩ := s6.form'
  have G6 : n6 * 40 ≤ 140737488355328 := by have := hfit.2.2.2.2.1; rw [← s6.len] at this; exact this
  have F6 : n6 ≤ maxLen := by unfold maxLen; omega
  have S6 := Lib.hid s6
  clear s6
  obtain ⟨j7, hi, hz, hs, hb⟩ := info_parts infoL_Template
  have I7 := Lib.hid (And.intro hi (And.intro hz (And.intro hs hb)))
  clear hi hz hs hb
  obtain ⟨pa7, n7, pc7, rfl⟩ := s7.form'
  have G7 : n7 * 40 ≤ 140737488355328 := by have := hfit.2.2.2.2.2; rw [← s7.len] at this; exact this
  have F7 : n7 ≤ maxLen := by unfold maxLen; omega
  have S7 := Lib.hid s7
  clear s7
  obtain ⟨j8, hi, hz, hs, hb⟩ := info_parts infoL_Cell
  have I8 := Lib.hid (And.intro hi (And.intro hz (And.intro hs hb)))
  clear hi hz hs hb
  obtain ⟨j9, hi, hz, hs, hb⟩ := info_parts infoL_Piece
  have I9 := Lib.hid (And.intro hi (And.intro hz (And.intro hs hb)))
  clear hi hz hs hb
  have Hfit := Lib.hid hfit
  have Hr := Lib.hid hrest
  have Hw := Lib.hid hw
  have hbase := hw.size
  clear hfit hrest hw
  have tokA : True := trivial
  have tokB : True := trivial
  go_enter Try.func8, Try.ntmps8
  try dsimp only [List.append]
  go_wp2_with (first
        | (at_builtin
           have _t := tokA
           go_must (refine wpList_append_list rfl (.tmp 11) (.tmp 13) _ rfl (w.heap.size + 1 + 1) w0.heap.size 9 j2 _ 1 16 Try.underlying22 I2.out.1 I2.out.2.1 I2.out.2.2.1 I2.out.2.2.2 rfl (by omega) (R := IsText) (l := []) (m := d.uses) (.slice (some ⟨w.heap.size + 1 + 1, 0, none⟩) 0 0) rfl (by exact Own1.empty (by rw [World.size_alloc, World.size_alloc]) (by rw [World.size_alloc, World.size_alloc]; omega)) pa2 n2 pc2 rfl (by exact S2.out.below (((Hw.out.alloc Hw.out.size _).alloc (below2 Hw.out.size) _).alloc (below3 Hw.out.size) _)) n2 (by simp) (fun x y hx u hu => by rw [hx.1] at hu; simp at hu; subst hu; rfl) (by simpa using F2) (by simpa using G2) (by rw [World.size_alloc, World.size_alloc, World.size_alloc]; omega) ?_)
           intro ua uc w1 hown hgrow
           clear tokA _t
           have hB1 : Blk w1 w.heap.size 29 #[.string d.name, .int .i64 d.version, .slice pa2 n2 pc2, .slice pa3 n3 pc3, .slice pa4 n4 pc4, .slice pa5 n5 pc5, .slice pa6 n6 pc6, .slice pa7 n7 pc7] := (((Blk.new w 29 #[.string d.name, .int .i64 d.version, .slice pa2 n2 pc2, .slice pa3 n3 pc3, .slice pa4 n4 pc4, .slice pa5 n5 pc5, .slice pa6 n6 pc6, .slice pa7 n7 pc7]).alloc (.cells #[.string ⟨#[]⟩, .int .i64 0, .slice none 0 0, .slice none 0 0, .slice none 0 0, .slice none 0 0, .slice none 0 0, .slice none 0 0] 29)).alloc (.cells #[] 9)).grown hgrow (by simp [Value.ownBlock] <;> omega)
           have hB2 : Blk w1 (w.heap.size + 1) 29 #[.string ⟨#[]⟩, .int .i64 0, .slice none 0 0, .slice none 0 0, .slice none 0 0, .slice none 0 0, .slice none 0 0, .slice none 0 0] := ((Blk.new_ (w := w.alloc (.cells #[.string d.name, .int .i64 d.version, .slice pa2 n2 pc2, .slice pa3 n3 pc3, .slice pa4 n4 pc4, .slice pa5 n5 pc5, .slice pa6 n6 pc6, .slice pa7 n7 pc7] 29)) (by rw [World.size_alloc]) 29 #[.string ⟨#[]⟩, .int .i64 0, .slice none 0 0, .slice none 0 0, .slice none 0 0, .slice none 0 0, .slice none 0 0, .slice none 0 0]).alloc (.cells #[] 9)).grown hgrow (by simp [Value.ownBlock] <;> omega)
           have c2 := hB1.cell (i := 2) rfl
           have c4 := hB1.cell (i := 4) rfl
           have f2 := hB1.frozen 2
           have hz1 : w.heap.size + 1 < w1.heap.size := hB2.lt
           have hy1 : w.heap.size < w1.heap.size := hB1.lt
           have L1 : Hid (Below w.heap.size w w1) := ((((Below.refl w.heap.size w).alloc (Nat.le_refl _) _).alloc (below2 (Nat.le_refl _)) _).alloc (below3 (Nat.le_refl _)) _).grown hgrow (by simp <;> omega) (fun k hk => by simp [Value.ownBlock] at hk; omega)
           have K1 := Lib.hid (And.intro hB1 (And.intro hB2 hown))
           clear hown hgrow hB1 hB2)
        | (at_builtin
           have _t := tokB
           have _u := K1
           have hsz : (w1.setCell ⟨w.heap.size, 2, none⟩ (.slice ua n2 uc)).heap.size = w1.heap.size := by simp [World.setCell]
           go_must (refine wpList_append_list rfl (.tmp 16) (.tmp 18) _ rfl (w.heap.size + 1 + 1) w0.heap.size 63 j4 _ 4 56 Try.underlying24 I4.out.1 I4.out.2.1 I4.out.2.2.1 I4.out.2.2.2 rfl (by omega) (R := Rule.Is) (l := []) (m := d.rules) (.slice (some ⟨w1.heap.size, 0, none⟩) 0 0) rfl (by exact Own1.empty hsz.symm (by rw [hsz]; omega)) pa4 n4 pc4 rfl (by exact S4.out.below (((Hw.out.trans (L1.out.mono Hw.out.size)).setCell (p := ⟨w.heap.size, 2, none⟩) (by show _ ≤ w.heap.size; omega) _).alloc (by rw [hsz]; omega) _)) n4 (by simp) Rule.Is.one (by simpa using F4) (by simpa using G4) (by rw [World.size_alloc, hsz]; omega) ?_)
           intro ra rc w2 hown hgrow
           clear tokB _t _u
           obtain ⟨hB1, hB2, hu⟩ := K1.out
           have hE : Own1 ((w1.setCell ⟨w.heap.size, 2, none⟩ (.slice ua n2 uc)).alloc (.cells #[] 63)) (w.heap.size + 1 + 1) 63 4 Rule.Is (.slice (some ⟨w1.heap.size, 0, none⟩) 0 0) [] := Own1.empty hsz.symm (by rw [hsz]; omega)
           have st : Stays w1 w2 (w.heap.size + 1 + 1) (fun e => e == 63) := (((Stays.of_set (by show w.heap.size < _; omega) _).trans (Stays.of_alloc _ _ _)).worse (fun _ _ => rfl)).trans (Stays.of_grown hE hgrow)
           have hu2 := st _ _ _ _ _ _ rfl hu
           have hB1' : Blk w2 w.heap.size 29 #[.string d.name, .int .i64 d.version, .slice ua n2 uc, .slice pa3 n3 pc3, .slice pa4 n4 pc4, .slice pa5 n5 pc5, .slice pa6 n6 pc6, .slice pa7 n7 pc7] := ((hB1.set_ 2 (.slice ua n2 uc)).alloc (.cells #[] 63)).grown hgrow (by simp [Value.ownBlock] <;> omega)
           have hB2' : Blk w2 (w.heap.size + 1) 29 #[.string ⟨#[]⟩, .int .i64 0, .slice none 0 0, .slice none 0 0, .slice none 0 0, .slice none 0 0, .slice none 0 0, .slice none 0 0] := ((hB2.far (p := ⟨w.heap.size, 2, none⟩) (by simp) (.slice ua n2 uc)).alloc (.cells #[] 63)).grown hgrow (by simp [Value.ownBlock] <;> omega)
           have c24 := hB1'.cell (i := 4) rfl
           have f24 := hB1'.frozen 4
           have hz2 : w.heap.size + 1 < w2.heap.size := hB2'.lt
           have hy2 : w.heap.size < w2.heap.size := hB1'.lt
           have L2 : Hid (Below w.heap.size w w2) := ((L1.out.setCell (p := ⟨w.heap.size, 2, none⟩) (Nat.le_refl _) _).alloc (by rw [hsz]; omega) _).grown hgrow (by rw [World.size_alloc, hsz]; omega) (fun k hk => by simp [Value.ownBlock] at hk; omega)
           have K2 := Lib.hid (And.intro hB1' (And.intro hB2' (And.intro hu2 hown)))
           clear hown hgrow hB1 hB2 hB1' hB2' hu hu2 hE st hsz K1 c2 c4 f2 hz1 hy1))
  go_loopw [3, 4] (fun out j wr => ∃ k : Nat, k ≤ n3 ∧ j = .int .i64 k ∧ Hid (Blk wr w.heap.size 29 #[.string d.name, .int .i64 d.version, .slice ua n2 uc, .slice pa3 n3 pc3, .slice ra n4 rc, .slice pa5 n5 pc5, .slice pa6 n6 pc6, .slice pa7 n7 pc7] ∧ Blk wr (w.heap.size + 1) 29 #[.string ⟨#[]⟩, .int .i64 0, .slice none 0 0, .slice none 0 0, .slice none 0 0, .slice none 0 0, .slice none 0 0, .slice none 0 0] ∧ Below w.heap.size w wr ∧ Own1 wr (w.heap.size + 1 + 1) 9 1 IsText (.slice ua n2 uc) (d.uses) ∧ Own1 wr (w.heap.size + 1 + 1) 63 4 Rule.Is (.slice ra n4 rc) (d.rules) ∧ Own1 wr (w.heap.size + 1 + 1) 38 6 (Concept.Own wr (w.heap.size + 1 + 1)) out (d.concepts.take k))) (fun _ j _ => n3 - (intOf j).toNat)
  case atStart =>
    obtain ⟨hB1, hB2, hu, hr⟩ := K2.out
    have st := Stays.of_set (w := w2) (base := w.heap.size + 1 + 1) (p := ⟨w.heap.size, 4, none⟩) (by show w.heap.size < _; omega) (.slice ra n4 rc)
    exact ⟨0, Nat.zero_le _, rfl, hB1.set_ 4 (.slice ra n4 rc), hB2.far (p := ⟨w.heap.size, 4, none⟩) (by simp) _, L2.out.setCell (p := ⟨w.heap.size, 4, none⟩) (Nat.le_refl _) _, st _ _ _ _ _ _ rfl hu, st _ _ _ _ _ _ rfl hr, ⟨[], World.ownsRow_nil _ _ _ _, FlatR.nil_⟩⟩
  case round =>
    obtain ⟨k, hk, rfl, hinv⟩ := hrel
    obtain ⟨hB1, hB2, hbl, hu, hr, ho⟩ := hinv.out
    have c3 := hB1.cell (i := 3) rfl
    have fz3 := hB1.frozen 3
    have hza := hB1.lt
    have hzb := hB2.lt
    have HBw : Below w0.heap.size w0 wr := Hw.out.trans (hbl.mono Hw.out.size)
    by_cases hlt : k < n3
    · obtain ⟨y, hd⟩ := get_some S3.out.len.symm hlt
      obtain ⟨b, off, x, rfl, hbB, hxl, hR, hx⟩ := (S3.out.below HBw).at_ hd
      have TC := Lib.hid (fun W hW => twin_concept W w0 hR hW)
      obtain ⟨e0, e1, e2, e3, en3, ec3, e4, en4, ec4, e5, en5, ec5, rfl⟩ := Concept.Is.shape _ _ hR
      have h0 := hx 0 _ rfl
      have h1 := hx 1 _ rfl
      have h2 := hx 2 _ rfl
      have h3 := hx 3 _ rfl
      have h4 := hx 4 _ rfl
      have h5 := hx 5 _ rfl
      simp only [Nat.add_zero] at h0
      have Hd := Lib.hid hd
      have HBw' := Lib.hid HBw
      clear hd hx hxl hR HBw hB1 hB2 hbl hu hr ho
      go_wp2_with fail
      with_reducible refine (TC.out _ HBw'.out).mono ?_
      rintro e wc ⟨x', rfl, hown, hb1⟩
      obtain ⟨hB1, hB2, hbl, hu, hr, ho⟩ := hinv.out
      have st1 : Stays wr wc (w.heap.size + 1 + 1) (fun _ => false) := Stays.of_below hb1 (Nat.le_refl _)
      have hB1c := hB1.below hb1 hza
      have hB2c := hB2.below hb1 hzb
      have huc := st1 _ _ _ _ _ _ rfl hu
      have hrc := st1 _ _ _ _ _ _ rfl hr
      have hoc := (st1 _ _ _ _ _ _ rfl ho).imp (fun _ _ r => r.stays st1 rfl rfl rfl)
      have hblc := hbl.trans (hb1.mono hbl.size)
      have hownc := hown.mono (base' := w.heap.size + 1 + 1) (by omega)
      obtain ⟨g1, g2, g3, rfl, q1, q2, q3, q4⟩ := hownc
      obtain ⟨ga1, gc1, rfl⟩ := q1.form
      obtain ⟨ga2, gc2, rfl⟩ := q2.form
      obtain ⟨ga3, gc3, rfl⟩ := q3.form
      have hY : Concept.Own wc (w.heap.size + 1 + 1) [.string y.name, .string y.super, .bool y.abs, .slice ga1 y.props.length gc1, .slice ga2 y.kids.length gc2, .slice ga3 y.refs.length gc3] y := ⟨_, _, _, rfl, q1, q2, q3, q4⟩
      have hzc : w.heap.size + 1 < wc.heap.size := hB2c.lt
      have hlk : (d.concepts.take k).length = k := by rw [List.length_take, ← S3.out.len]; omega
      have hyk : d.concepts.take k ++ [y] = d.concepts.take (k + 1) := by
        rw [List.take_succ_eq_append_getElem (by rw [← S3.out.len]; exact hlt), (List.getElem?_eq_some_iff.1 Hd.out).2]
      have Hlk := Lib.hid hlk
      have Hyk := Lib.hid hyk
      have HC := Lib.hid (And.intro hB1c (And.intro hB2c (And.intro hblc (And.intro huc (And.intro hrc (And.intro hoc hY))))))
      clear hB1 hB2 hbl hu hr ho hB1c hB2c hblc huc hrc hoc hY hlk hyk q1 q2 q3 q4 hown hb1 st1
      go_wp2_with (at_builtin
                   go_must (refine wpList_append_list rfl (.tmp 28) (.tmp 35) _ rfl (w.heap.size + 1 + 1) (wc.heap.size + 1) 38 j3 _ 6 112 Try.underlying23 I3.out.1 I3.out.2.1 I3.out.2.2.1 I3.out.2.2.2 rfl (by omega) (R := Concept.Own (wc.alloc (.cells #[.string y.name, .string y.super, .bool y.abs, .slice ga1 y.props.length gc1, .slice ga2 y.kids.length gc2, .slice ga3 y.refs.length gc3] 38)) (w.heap.size + 1 + 1)) (l := d.concepts.take k) (m := [y]) u3 rfl (by exact (HC.out.2.2.2.2.2.1.alloc _).imp (fun _ _ r => r.stays (Stays.of_alloc _ _ _) rfl rfl rfl)) (some ⟨wc.heap.size, 0, none⟩) 1 1 rfl (by exact SlR.new1 rfl rfl (HC.out.2.2.2.2.2.2.stays (Stays.of_alloc _ _ _) rfl rfl rfl)) (k + 1) (by rw [Hlk.out]) (fun x y hx u hu => by obtain ⟨_, _, _, rfl, r1, r2, r3, _⟩ := hx; obtain ⟨_, _, rfl⟩ := r1.form; obtain ⟨_, _, rfl⟩ := r2.form; obtain ⟨_, _, rfl⟩ := r3.form; simp at hu; rcases hu with rfl | rfl | rfl | rfl | rfl | rfl <;> rfl) (by rw [Hlk.out]; omega) (by rw [Hlk.out]; omega) (by rw [World.size_alloc]; omega) ?_)
                   intro xa xc w4 hown hgrow
                   have H4 := Lib.hid (And.intro hown hgrow)
                   clear hown hgrow)
      go_roundw
      case rel =>
        refine ⟨k + 1, by omega, by go_num, ?_⟩
        obtain ⟨hB1c, hB2c, hblc, huc, hrc, hoc, hY⟩ := HC.out
        obtain ⟨hown, hgrow⟩ := H4.out
        have hO := hoc.alloc (.cells #[.string y.name, .string y.super, .bool y.abs, .slice ga1 y.props.length gc1, .slice ga2 y.kids.length gc2, .slice ga3 y.refs.length gc3] 38)
        have st2 := ((Stays.of_alloc wc (w.heap.size + 1 + 1) (.cells #[.string y.name, .string y.super, .bool y.abs, .slice ga1 y.props.length gc1, .slice ga2 y.kids.length gc2, .slice ga3 y.refs.length gc3] 38)).worse (bad' := fun e => e == 38) (fun _ _ => rfl)).trans (Stays.of_grown hO hgrow)
        have hne : ∀ g, u3.ownBlock = some g → w.heap.size + 1 + 1 ≤ g := fun g hg => (hO.block g hg).1
        refine ⟨(hB1c.alloc _).grown hgrow (fun e => by have := hne _ e.symm; omega), (hB2c.alloc _).grown hgrow (fun e => by have := hne _ e.symm; omega), (hblc.alloc (by omega) _).grown hgrow (by rw [World.size_alloc]; omega) (fun g hg => by have := hne g hg; omega), st2 _ _ _ _ _ _ rfl huc, st2 _ _ _ _ _ _ rfl hrc, ?_⟩
        rw [← Hyk.out]
        exact hown.imp (fun _ _ r => r.stays (Stays.of_grown hO hgrow) rfl rfl rfl)
      case measure => simp [intOf]; omega
    · have hge : n3 ≤ k := by omega
      have hdec : decide (k < n3) = false := by simp; omega
      clear hlt
      have hall : d.concepts.take k = d.concepts := by rw [List.take_of_length_le (by rw [← S3.out.len]; exact hge)]
      rw [hall] at ho
      have K3 := Lib.hid (And.intro hB1 (And.intro hB2 (And.intro hbl (And.intro hu (And.intro hr ho)))))
      clear hB1 hB2 hbl hu hr ho hall HBw
      obtain ⟨ca3, cc3, rfl⟩ := K3.out.2.2.2.2.2.form
      go_wp2_with fail
      go_loopw [5, 6] (fun out j wr => ∃ k : Nat, k ≤ n5 ∧ j = .int .i64 k ∧ Hid (Blk wr w.heap.size 29 #[.string d.name, .int .i64 d.version, .slice ua n2 uc, .slice ca3 d.concepts.length cc3, .slice ra n4 rc, .slice pa5 n5 pc5, .slice pa6 n6 pc6, .slice pa7 n7 pc7] ∧ Blk wr (w.heap.size + 1) 29 #[.string ⟨#[]⟩, .int .i64 0, .slice none 0 0, .slice none 0 0, .slice none 0 0, .slice none 0 0, .slice none 0 0, .slice none 0 0] ∧ Below w.heap.size w wr ∧ Own1 wr (w.heap.size + 1 + 1) 9 1 IsText (.slice ua n2 uc) (d.uses) ∧ Own1 wr (w.heap.size + 1 + 1) 63 4 Rule.Is (.slice ra n4 rc) (d.rules) ∧ Own1 wr (w.heap.size + 1 + 1) 38 6 (Concept.Own wr (w.heap.size + 1 + 1)) (.slice ca3 d.concepts.length cc3) (d.concepts) ∧ Own1 wr (w.heap.size + 1 + 1) 53 3 (Equation.Own wr (w.heap.size + 1 + 1)) out (d.equations.take k))) (fun _ j _ => n5 - (intOf j).toNat)
      case atStart =>
        obtain ⟨hB1, hB2, hbl, hu, hr, ho⟩ := K3.out
        have st := Stays.of_set (w := wr) (base := w.heap.size + 1 + 1) (p := ⟨w.heap.size, 3, none⟩) (by show w.heap.size < _; omega) (.slice ca3 d.concepts.length cc3)
        exact ⟨0, Nat.zero_le _, rfl, hB1.set_ 3 (.slice ca3 d.concepts.length cc3), hB2.far (p := ⟨w.heap.size, 3, none⟩) (by simp) _, hbl.setCell (p := ⟨w.heap.size, 3, none⟩) (Nat.le_refl _) _, st _ _ _ _ _ _ rfl hu, st _ _ _ _ _ _ rfl hr, (st _ _ _ _ _ _ rfl ho).imp (fun _ _ r => r.stays st rfl rfl rfl), ⟨[], World.ownsRow_nil _ _ _ _, FlatR.nil_⟩⟩
      case round =>
        clear K3 c3 fz3 hza hzb
        obtain ⟨k5, hk5, rfl, hinv5⟩ := hrel
        obtain ⟨hB1, hB2, hbl, hu, hr, hc, ho⟩ := hinv5.out
        have c5 := hB1.cell (i := 5) rfl
        have fz5 := hB1.frozen 5
        have hza := hB1.lt
        have hzb := hB2.lt
        have HBw : Below w0.heap.size w0 wr := Hw.out.trans (hbl.mono Hw.out.size)
        by_cases hlt : k5 < n5
        · obtain ⟨y, hd⟩ := get_some S5.out.len.symm hlt
          obtain ⟨b, off, x, rfl, hbB, hxl, ⟨u1, u2, rfl, t1, t2, t3, t4, t5⟩, hx⟩ := (S5.out.below HBw).at_ hd
          obtain ⟨la, ln, lc, rfl⟩ := t1.form'
          obtain ⟨ra', rn, rc', rfl⟩ := t2.form'
          have h0 := hx 0 _ rfl
          have h1 := hx 1 _ rfl
          have h2 := hx 2 _ rfl
          simp only [Nat.add_zero] at h0
          have T1 := Lib.hid (fun W hW => twin_side W w0 t1 t3 hW)
          have T2 := Lib.hid (fun W hW => twin_side W w0 t2 t4 hW)
          have HBw' := Lib.hid HBw
          have hzb' : b < wr.heap.size := by have := HBw.size; omega
          have hi0 : (0 : Int) ≤ (k5 : Int) := Int.natCast_nonneg _
          have hi1 : (k5 : Int) < (n5 : Int) := by omega
          have tokL : True := trivial
          clear HBw t1 t2
          clear hB1 hB2 hbl hu hr hc ho hx hxl
          go_wp2_with fail
          go_region_held3 (fun w' => w'.cell? ⟨w.heap.size, 5, none⟩ = some (.slice (some ⟨b, off, none⟩) n5 pc5) ∧ w'.cell? ⟨b, off + k5 * 3, none⟩ = some (.string y.concept) ∧ w'.cell? ⟨b, off + k5 * 3 + 1, none⟩ = some (.slice la ln lc) ∧ w'.cell? ⟨b, off + k5 * 3 + 2, none⟩ = some (.slice ra' rn rc'))
            (first
              | go_keep
              | (have _k := hgrow; exact ⟨(hgrow.cell_far _ (by show w.heap.size < _; rw [World.size_alloc]; have := hbA.size; have := hbB2.size; simp at *; omega) (fun e => by have := hne5 _ e.symm; simp at this; omega)).trans ((World.cell?_alloc_lt _ _ _ (by show w.heap.size < _; have := hbA.size; have := hbB2.size; simp at *; omega)).trans ((hbB2.cell (p := ⟨_, _, none⟩) (by show w.heap.size < _; have := hbA.size; simp at this; omega)).trans ((hbA.cell (p := ⟨_, _, none⟩) (by show w.heap.size < _; simp; omega)).trans c5))), (hgrow.cell_far _ (by show b < _; rw [World.size_alloc]; have := hbA.size; have := hbB2.size; simp at *; omega) (fun e => by have := hne5 _ e.symm; simp at this; omega)).trans ((World.cell?_alloc_lt _ _ _ (by show b < _; have := hbA.size; have := hbB2.size; simp at *; omega)).trans ((hbB2.cell (p := ⟨_, _, none⟩) (by show b < _; have := hbA.size; simp at this; omega)).trans ((hbA.cell (p := ⟨_, _, none⟩) (by show b < _; simp; omega)).trans h0))), (hgrow.cell_far _ (by show b < _; rw [World.size_alloc]; have := hbA.size; have := hbB2.size; simp at *; omega) (fun e => by have := hne5 _ e.symm; simp at this; omega)).trans ((World.cell?_alloc_lt _ _ _ (by show b < _; have := hbA.size; have := hbB2.size; simp at *; omega)).trans ((hbB2.cell (p := ⟨_, _, none⟩) (by show b < _; have := hbA.size; simp at this; omega)).trans ((hbA.cell (p := ⟨_, _, none⟩) (by show b < _; simp; omega)).trans h1))), (hgrow.cell_far _ (by show b < _; rw [World.size_alloc]; have := hbA.size; have := hbB2.size; simp at *; omega) (fun e => by have := hne5 _ e.symm; simp at this; omega)).trans ((World.cell?_alloc_lt _ _ _ (by show b < _; have := hbA.size; have := hbB2.size; simp at *; omega)).trans ((hbB2.cell (p := ⟨_, _, none⟩) (by show b < _; have := hbA.size; simp at this; omega)).trans ((hbA.cell (p := ⟨_, _, none⟩) (by show b < _; simp; omega)).trans h2)))⟩)
              | (have _k := hbB2; exact ⟨(hbB2.cell (p := ⟨_, _, none⟩) (by show w.heap.size < _; have := hbA.size; simp at this; omega)).trans ((hbA.cell (p := ⟨_, _, none⟩) (by show w.heap.size < _; simp; omega)).trans c5), (hbB2.cell (p := ⟨_, _, none⟩) (by show b < _; have := hbA.size; simp at this; omega)).trans ((hbA.cell (p := ⟨_, _, none⟩) (by show b < _; simp; omega)).trans h0), (hbB2.cell (p := ⟨_, _, none⟩) (by show b < _; have := hbA.size; simp at this; omega)).trans ((hbA.cell (p := ⟨_, _, none⟩) (by show b < _; simp; omega)).trans h1), (hbB2.cell (p := ⟨_, _, none⟩) (by show b < _; have := hbA.size; simp at this; omega)).trans ((hbA.cell (p := ⟨_, _, none⟩) (by show b < _; simp; omega)).trans h2)⟩)
              | exact ⟨(hbA.cell (p := ⟨_, _, none⟩) (by show w.heap.size < _; simp; omega)).trans c5, (hbA.cell (p := ⟨_, _, none⟩) (by show b < _; simp; omega)).trans h0, (hbA.cell (p := ⟨_, _, none⟩) (by show b < _; simp; omega)).trans h1, (hbA.cell (p := ⟨_, _, none⟩) (by show b < _; simp; omega)).trans h2⟩
              | fail)
            (first
              | (go_at_call 35; have _t := tokL; refine (T1.out _ HBw'.out.drew).mono ?_; rintro e wa ⟨va, rfl, ownA, hbA⟩; obtain ⟨aa, ac, rfl⟩ := ownA.form; clear tokL _t)
              | (go_at_call 35; refine (T2.out _ (HBw'.out.drew.trans (hbA.mono HBw'.out.size))).mono ?_; rintro e wb ⟨vb, rfl, ownB, hbB2⟩; obtain ⟨ba, bc, rfl⟩ := ownB.form)
              | (have hwB : Below w0.heap.size w0 wb := (HBw'.out.drew.trans (hbA.mono HBw'.out.size)).trans (hbB2.mono (by have := HBw'.out.size; have := hbA.size; simp at this; omega))
                 have st : Stays wr wb (w.heap.size + 1 + 1) (fun _ => false) := ((Stays.of_drew wr _).trans (Stays.of_below hbA (Nat.le_refl _))).trans (Stays.of_below hbB2 (Nat.le_refl _))
                 have stA : Stays wa wb (w.heap.size + 1 + 1) (fun _ => false) := Stays.of_below hbB2 (Nat.le_refl _)
                 obtain ⟨iB1, iB2, ibl, iu, ir, ic, io⟩ := hinv5.out
                 have pA := (ownA.mono (base' := w.heap.size + 1 + 1) (by simp; omega)).imp (fun _ _ r => (r.mono (base' := w.heap.size + 1 + 1) (by simp; omega)))
                 have pA' := (stA _ _ _ _ _ _ rfl pA).imp (fun _ _ r => r.stays stA rfl)
                 have pB := (ownB.mono (base' := w.heap.size + 1 + 1) (by have := hbA.size; simp at this; omega)).imp (fun _ _ r => (r.mono (base' := w.heap.size + 1 + 1) (by have := hbA.size; simp at this; omega)))
                 have hY : Equation.Own wb (w.heap.size + 1 + 1) [.string y.concept, .slice aa y.left.length ac, .slice ba y.right.length bc] y := ⟨_, _, rfl, pA', pB, t3, t4, t5⟩
                 have io' := (st _ _ _ _ _ _ rfl io).imp (fun _ _ r => r.stays st rfl rfl)
                 have hlk : (d.equations.take k5).length = k5 := by rw [List.length_take, ← S5.out.len]; omega
                 have hzW : w.heap.size + 1 < wb.heap.size := by have := hbA.size; have := hbB2.size; simp at *; omega
                 go_must (refine step_append_list rfl (.tmp 46) (.tmp 68) _ rfl (w.heap.size + 1 + 1) (wb.heap.size + 1) 53 j5 _ 3 64 Try.underlying25 I5.out.1 I5.out.2.1 I5.out.2.2.1 I5.out.2.2.2 rfl (by omega) (R := Equation.Own (wb.alloc (.cells #[.string y.concept, .slice aa y.left.length ac, .slice ba y.right.length bc] 53)) (w.heap.size + 1 + 1)) (l := d.equations.take k5) (m := [y]) u5 rfl (by exact (io'.alloc _).imp (fun _ _ r => r.stays (Stays.of_alloc _ _ _) rfl rfl)) (some ⟨wb.heap.size, 0, none⟩) 1 1 rfl (by exact SlR.new1 rfl rfl (hY.stays (Stays.of_alloc _ _ _) rfl rfl)) (k5 + 1) (by rw [hlk]) (fun x y hx u hu => by obtain ⟨_, _, rfl, r1, r2, _⟩ := hx; obtain ⟨_, _, rfl⟩ := r1.form; obtain ⟨_, _, rfl⟩ := r2.form; simp at hu; rcases hu with rfl | rfl | rfl <;> rfl) (by rw [hlk]; omega) (by rw [hlk]; omega) (by rw [World.size_alloc]; omega) ?_)
                 intro xa xc w4 hown hgrow
                 have hne5 : ∀ g, u5.ownBlock = some g → w.heap.size + 1 + 1 ≤ g := fun g hg => (io.block g hg).1)
              | fail)
          have H4 := Lib.hid (And.intro hown (And.intro hgrow (And.intro hne5 (And.intro hY (And.intro io' (And.intro st (And.intro hlk (And.intro hzW (And.intro hbA hbB2)))))))))
          have Hd := Lib.hid hd
          clear hown hgrow hne5 hY io' st hlk hzW hbA hbB2 hd iB1 iB2 ibl iu ir ic io pA pA' pB stA ownA ownB hwB t3 t4 t5
          go_wp2_with fail
          go_roundw
          case rel =>
            refine ⟨k5 + 1, by omega, by go_num, ?_⟩
            obtain ⟨hown, hgrow, hne5, hY, io', st, hlk, hzW, hbA, hbB2⟩ := H4.out
            obtain ⟨iB1, iB2, ibl, iu, ir, ic, io⟩ := hinv5.out
            have hyk : d.equations.take k5 ++ [y] = d.equations.take (k5 + 1) := by
              rw [List.take_succ_eq_append_getElem (by rw [← S5.out.len]; exact hlt), (List.getElem?_eq_some_iff.1 Hd.out).2]
            have za := hbA.size
            have zb := hbB2.size
            simp at za
            have bB1 := (Blk.below (w := wr.drew) iB1 hbA (by show w.heap.size < wr.heap.size; omega)).below hbB2 (by omega)
            have bB2 := (Blk.below (w := wr.drew) iB2 hbA (by show w.heap.size + 1 < wr.heap.size; omega)).below hbB2 (by omega)
            have bbl : Below w.heap.size w wb := (ibl.drew.trans (hbA.mono (by have := ibl.size; simp; omega))).trans (hbB2.mono (by have := ibl.size; omega))
            have hO := io'.alloc (.cells #[.string y.concept, .slice aa y.left.length ac, .slice ba y.right.length bc] 53)
            have st2 := ((st.trans (Stays.of_alloc wb (w.heap.size + 1 + 1) (.cells #[.string y.concept, .slice aa y.left.length ac, .slice ba y.right.length bc] 53))).worse (bad' := fun e => e == 53) (fun _ _ => rfl)).trans (Stays.of_grown hO hgrow)
            refine ⟨(bB1.alloc _).grown hgrow (fun e => by have := hne5 _ e.symm; omega), (bB2.alloc _).grown hgrow (fun e => by have := hne5 _ e.symm; omega), (bbl.alloc (by omega) _).grown hgrow (by rw [World.size_alloc]; omega) (fun g hg => by have := hne5 g hg; omega), st2 _ _ _ _ _ _ rfl iu, st2 _ _ _ _ _ _ rfl ir, (st2 _ _ _ _ _ _ rfl ic).imp (fun _ _ r => r.stays st2 rfl rfl rfl), ?_⟩
            rw [← hyk]
            exact hown.imp (fun _ _ r => r.stays (Stays.of_grown hO hgrow) rfl rfl)
          case measure => simp [intOf]; omega
        · have hge : n5 ≤ k5 := by omega
          have hdec : decide (k5 < n5) = false := by simp; omega
          clear hlt
          have hall : d.equations.take k5 = d.equations := by rw [List.take_of_length_le (by rw [← S5.out.len]; exact hge)]
          rw [hall] at ho
          have K4 := Lib.hid (And.intro hB1 (And.intro hB2 (And.intro hbl (And.intro hu (And.intro hr (And.intro hc ho))))))
          clear hB1 hB2 hbl hu hr hc ho hall HBw
          obtain ⟨ca5, cc5, rfl⟩ := K4.out.2.2.2.2.2.2.form
          go_wp2_with fail
          go_loopw [7, 8] (fun out j wr => ∃ k : Nat, k ≤ n6 ∧ j = .int .i64 k ∧ Hid (Blk wr w.heap.size 29 #[.string d.name, .int .i64 d.version, .slice ua n2 uc, .slice ca3 d.concepts.length cc3, .slice ra n4 rc, .slice ca5 d.equations.length cc5, .slice pa6 n6 pc6, .slice pa7 n7 pc7] ∧ Blk wr (w.heap.size + 1) 29 #[.string ⟨#[]⟩, .int .i64 0, .slice none 0 0, .slice none 0 0, .slice none 0 0, .slice none 0 0, .slice none 0 0, .slice none 0 0] ∧ Below w.heap.size w wr ∧ Own1 wr (w.heap.size + 1 + 1) 9 1 IsText (.slice ua n2 uc) (d.uses) ∧ Own1 wr (w.heap.size + 1 + 1) 63 4 Rule.Is (.slice ra n4 rc) (d.rules) ∧ Own1 wr (w.heap.size + 1 + 1) 38 6 (Concept.Own wr (w.heap.size + 1 + 1)) (.slice ca3 d.concepts.length cc3) (d.concepts) ∧ Own1 wr (w.heap.size + 1 + 1) 53 3 (Equation.Own wr (w.heap.size + 1 + 1)) (.slice ca5 d.equations.length cc5) (d.equations) ∧ Own1 wr (w.heap.size + 1 + 1) 56 2 (Editor.Own wr (w.heap.size + 1 + 1)) out (d.editors.take k))) (fun _ j _ => n6 - (intOf j).toNat)
          case atStart =>
            obtain ⟨hB1, hB2, hbl, hu, hr, hc, hq⟩ := K4.out
            have st := Stays.of_set (w := wr) (base := w.heap.size + 1 + 1) (p := ⟨w.heap.size, 5, none⟩) (by show w.heap.size < _; omega) (.slice ca5 d.equations.length cc5)
            exact ⟨0, Nat.zero_le _, rfl, hB1.set_ 5 (.slice ca5 d.equations.length cc5), hB2.far (p := ⟨w.heap.size, 5, none⟩) (by simp) _, hbl.setCell (p := ⟨w.heap.size, 5, none⟩) (Nat.le_refl _) _, (st _ _ _ _ _ _ rfl hu), (st _ _ _ _ _ _ rfl hr), (st _ _ _ _ _ _ rfl hc).imp (fun _ _ r => r.stays st rfl rfl rfl), (st _ _ _ _ _ _ rfl hq).imp (fun _ _ r => r.stays st rfl rfl), ⟨[], World.ownsRow_nil _ _ _ _, FlatR.nil_⟩⟩
          case round =>
            clear K4 c5 fz5 hza hzb
            obtain ⟨k6, hk6, rfl, hinv6⟩ := hrel
            obtain ⟨hB1, hB2, hbl, hu, hr, hc, hq, ho⟩ := hinv6.out
            have c6 := hB1.cell (i := 6) rfl
            have fz6 := hB1.frozen 6
            have hza := hB1.lt
            have hzb := hB2.lt
            have HBw : Below w0.heap.size w0 wr := Hw.out.trans (hbl.mono Hw.out.size)
            by_cases hlt : k6 < n6
            · obtain ⟨y, hd⟩ := get_some S6.out.len.symm hlt
              obtain ⟨b, off, x, rfl, hbB, hxl, ⟨v1, rfl, t1, t3, t4⟩, hx⟩ := (S6.out.below HBw).at_ hd
              obtain ⟨la, ln, lc, rfl⟩ := t1.form'
              have h0 := hx 0 _ rfl
              have h1 := hx 1 _ rfl
              simp only [Nat.add_zero] at h0
              have T1 := Lib.hid t1
              have fl : ln ≤ maxLen := by have := t1.caps; omega
              have gl : ln * 40 ≤ 140737488355328 := by have := t3; rw [← t1.len] at this; exact this
              have HBw' := Lib.hid HBw
              have hzb' : b < wr.heap.size := by have := HBw.size; omega
              have hi0 : (0 : Int) ≤ (k6 : Int) := Int.natCast_nonneg _
              have hi1 : (k6 : Int) < (n6 : Int) := by omega
              have tokL : True := trivial
              have hsb := HBw.size
              clear HBw t1
              clear hB1 hB2 hbl hu hr hc hq ho hx hxl
              go_wp2_with fail
              go_region_held3 (fun w' => w'.cell? ⟨w.heap.size, 6, none⟩ = some (.slice (some ⟨b, off, none⟩) n6 pc6) ∧ w'.cell? ⟨b, off + k6 * 2, none⟩ = some (.string y.concept) ∧ w'.cell? ⟨b, off + k6 * 2 + 1, none⟩ = some (.slice la ln lc))
                (first
                  | exact ⟨keep_alloc (w := wr) c6, keep_alloc (w := wr) h0, keep_alloc (w := wr) h1⟩
                  | (have _k := kW; exact kW)
                  | (have _k := kA; first | exact kA | exact ⟨keep_alloc kA.1, keep_alloc kA.2.1, keep_alloc kA.2.2⟩)
                  | go_keep
                  | fail)
                (first
                  | (have _t := tokL
                     go_must (refine step_append_list rfl (.tmp 86) (.tmp 92) _ rfl (w.heap.size + 1 + 1) w0.heap.size 74 j8 _ 3 40 Try.underlying54 I8.out.1 I8.out.2.1 I8.out.2.2.1 I8.out.2.2.2 rfl (by omega) (R := Cell.Is) (l := []) (m := y.cells) (.slice (some ⟨wr.heap.size, 0, none⟩) 0 0) rfl (by exact (Own1.empty (w := wr) rfl (by omega)).drew) la ln lc rfl (by exact T1.out.below ((HBw'.out.alloc HBw'.out.size _).drew)) ln (by simp) Cell.Is.one (by simpa using fl) (by simpa using gl) (by show _ ≤ (wr.alloc (.cells #[] 74)).heap.size; rw [World.size_alloc]; omega) ?_)
                     intro aa ac wa hownA hgA0
                     have hgA : (wr.alloc (.cells #[] 74)).grownBy wa _ := ⟨hgA0.os, hgA0.tape, hgA0.output, hgA0.size, hgA0.block⟩
                     have hbA : Below wr.heap.size wr wa := ((Below.refl wr.heap.size wr).alloc (Nat.le_refl _) (.cells #[] 74)).grown hgA (by rw [World.size_alloc]; omega) (fun g hg => by simp [Value.ownBlock] at hg; omega)
                     have kA := And.intro (keep_grown (w := wr) hgA c6 (by simp [Value.ownBlock] <;> omega)) (And.intro (keep_grown (w := wr) hgA h0 (by simp [Value.ownBlock] <;> omega)) (keep_grown (w := wr) hgA h1 (by simp [Value.ownBlock] <;> omega)))
                     have HA := Lib.hid (And.intro hbA hownA)
                     clear tokL _t hgA0 hgA hownA hbA)
                  | (obtain ⟨hbA, hownA⟩ := HA.out
                     have hwB : Below w0.heap.size w0 wa := HBw'.out.trans (hbA.mono HBw'.out.size)
                     have st : Stays wr wa (w.heap.size + 1 + 1) (fun _ => false) := Stays.of_below hbA (Nat.le_refl _)
                     obtain ⟨iB1, iB2, ibl, iu, ir, ic, iq, io⟩ := hinv6.out
                     have hY : Editor.Own wa (w.heap.size + 1 + 1) [.string y.concept, .slice aa ln ac] y := ⟨_, rfl, hownA, t3, t4⟩
                     have io' := (st _ _ _ _ _ _ rfl io).imp (fun _ _ r => r.stays st rfl)
                     have hlk : (d.editors.take k6).length = k6 := by rw [List.length_take, ← S6.out.len]; omega
                     have hzW : w.heap.size + 1 < wa.heap.size := by have := hbA.size; omega
                     go_must (refine step_append_list rfl (.tmp 79) (.tmp 95) _ rfl (w.heap.size + 1 + 1) (wa.heap.size + 1) 56 j6 _ 2 40 Try.underlying26 I6.out.1 I6.out.2.1 I6.out.2.2.1 I6.out.2.2.2 rfl (by omega) (R := Editor.Own (wa.alloc (.cells #[.string y.concept, .slice aa ln ac] 56)) (w.heap.size + 1 + 1)) (l := d.editors.take k6) (m := [y]) u7 rfl (by exact (io'.alloc _).imp (fun _ _ r => r.stays (Stays.of_alloc _ _ _) rfl)) (some ⟨wa.heap.size, 0, none⟩) 1 1 rfl (by exact SlR.new1 rfl rfl (hY.stays (Stays.of_alloc _ _ _) rfl)) (k6 + 1) (by rw [hlk]) (fun x y hx u hu => by obtain ⟨_, rfl, r1, _⟩ := hx; obtain ⟨_, _, rfl⟩ := r1.form; simp at hu; rcases hu with rfl | rfl <;> rfl) (by rw [hlk]; omega) (by rw [hlk]; omega) (by rw [World.size_alloc]; omega) ?_)
                     intro xa xc w4 hown hgrow
                     have hne : ∀ g, u7.ownBlock = some g → w.heap.size + 1 + 1 ≤ g := fun g hg => (io.block g hg).1
                     have kW := And.intro (keep_grown hgrow kA.1 (fun e => by have := hne _ e.symm; simp at this; omega)) (And.intro (keep_grown hgrow kA.2.1 (fun e => by have := hne _ e.symm; simp at this; omega)) (keep_grown hgrow kA.2.2 (fun e => by have := hne _ e.symm; simp at this; omega)))
                     have H4 := Lib.hid (And.intro hown (And.intro hgrow (And.intro hne (And.intro hY (And.intro io' (And.intro st hlk))))))
                     clear hown hgrow hne hY io' st hlk hownA iB1 iB2 ibl iu ir ic iq io hwB)
                  | fail)
              have Hd := Lib.hid hd
              clear hd t3 t4
              go_wp2_with fail
              go_roundw
              case rel =>
                refine ⟨k6 + 1, by omega, by go_num, ?_⟩
                obtain ⟨hown, hgrow, hne, hY, io', st, hlk⟩ := H4.out
                obtain ⟨hbA, _⟩ := HA.out
                obtain ⟨iB1, iB2, ibl, iu, ir, ic, iq, io⟩ := hinv6.out
                have hyk : d.editors.take k6 ++ [y] = d.editors.take (k6 + 1) := by
                  rw [List.take_succ_eq_append_getElem (by rw [← S6.out.len]; exact hlt), (List.getElem?_eq_some_iff.1 Hd.out).2]
                have bB1 := iB1.below hbA hza
                have bB2 := iB2.below hbA hzb
                have bbl : Below w.heap.size w wa := ibl.trans (hbA.mono ibl.size)
                have hO := io'.alloc (.cells #[.string y.concept, .slice aa ln ac] 56)
                have st2 := ((st.trans (Stays.of_alloc wa (w.heap.size + 1 + 1) (.cells #[.string y.concept, .slice aa ln ac] 56))).worse (bad' := fun e => e == 56) (fun _ _ => rfl)).trans (Stays.of_grown hO hgrow)
                refine ⟨(bB1.alloc _).grown hgrow (fun e => by have := hne _ e.symm; omega), (bB2.alloc _).grown hgrow (fun e => by have := hne _ e.symm; omega), (bbl.alloc (by omega) _).grown hgrow (by rw [World.size_alloc]; omega) (fun g hg => by have := hne g hg; omega), (st2 _ _ _ _ _ _ rfl iu), (st2 _ _ _ _ _ _ rfl ir), (st2 _ _ _ _ _ _ rfl ic).imp (fun _ _ r => r.stays st2 rfl rfl rfl), (st2 _ _ _ _ _ _ rfl iq).imp (fun _ _ r => r.stays st2 rfl rfl), ?_⟩
                rw [← hyk]
                exact hown.imp (fun _ _ r => r.stays (Stays.of_grown hO hgrow) rfl)
              case measure => simp [intOf]; omega
            · have hge : n6 ≤ k6 := by omega
              have hdec : decide (k6 < n6) = false := by simp; omega
              clear hlt
              have hall : d.editors.take k6 = d.editors := by rw [List.take_of_length_le (by rw [← S6.out.len]; exact hge)]
              rw [hall] at ho
              have K5 := Lib.hid (And.intro hB1 (And.intro hB2 (And.intro hbl (And.intro hu (And.intro hr (And.intro hc (And.intro hq ho)))))))
              clear hB1 hB2 hbl hu hr hc hq ho hall HBw
              obtain ⟨ca6, cc6, rfl⟩ := K5.out.2.2.2.2.2.2.2.form
              go_wp2_with fail
              go_loopw [9, 10] (fun out j wr => ∃ k : Nat, k ≤ n7 ∧ j = .int .i64 k ∧ Hid (Blk wr w.heap.size 29 #[.string d.name, .int .i64 d.version, .slice ua n2 uc, .slice ca3 d.concepts.length cc3, .slice ra n4 rc, .slice ca5 d.equations.length cc5, .slice ca6 d.editors.length cc6, .slice pa7 n7 pc7] ∧ Blk wr (w.heap.size + 1) 29 #[.string ⟨#[]⟩, .int .i64 0, .slice none 0 0, .slice none 0 0, .slice none 0 0, .slice none 0 0, .slice none 0 0, .slice none 0 0] ∧ Below w.heap.size w wr ∧ Own1 wr (w.heap.size + 1 + 1) 9 1 IsText (.slice ua n2 uc) (d.uses) ∧ Own1 wr (w.heap.size + 1 + 1) 63 4 Rule.Is (.slice ra n4 rc) (d.rules) ∧ Own1 wr (w.heap.size + 1 + 1) 38 6 (Concept.Own wr (w.heap.size + 1 + 1)) (.slice ca3 d.concepts.length cc3) (d.concepts) ∧ Own1 wr (w.heap.size + 1 + 1) 53 3 (Equation.Own wr (w.heap.size + 1 + 1)) (.slice ca5 d.equations.length cc5) (d.equations) ∧ Own1 wr (w.heap.size + 1 + 1) 56 2 (Editor.Own wr (w.heap.size + 1 + 1)) (.slice ca6 d.editors.length cc6) (d.editors) ∧ Own1 wr (w.heap.size + 1 + 1) 59 2 (Template.Own wr (w.heap.size + 1 + 1)) out (d.templates.take k))) (fun _ j _ => n7 - (intOf j).toNat)
              case atStart =>
                obtain ⟨hB1, hB2, hbl, hu, hr, hc, hq, he⟩ := K5.out
                have st := Stays.of_set (w := wr) (base := w.heap.size + 1 + 1) (p := ⟨w.heap.size, 6, none⟩) (by show w.heap.size < _; omega) (.slice ca6 d.editors.length cc6)
                exact ⟨0, Nat.zero_le _, rfl, hB1.set_ 6 (.slice ca6 d.editors.length cc6), hB2.far (p := ⟨w.heap.size, 6, none⟩) (by simp) _, hbl.setCell (p := ⟨w.heap.size, 6, none⟩) (Nat.le_refl _) _, (st _ _ _ _ _ _ rfl hu), (st _ _ _ _ _ _ rfl hr), (st _ _ _ _ _ _ rfl hc).imp (fun _ _ r => r.stays st rfl rfl rfl), (st _ _ _ _ _ _ rfl hq).imp (fun _ _ r => r.stays st rfl rfl), (st _ _ _ _ _ _ rfl he).imp (fun _ _ r => r.stays st rfl), ⟨[], World.ownsRow_nil _ _ _ _, FlatR.nil_⟩⟩
              case round =>
                clear K5 c6 fz6 hza hzb
                obtain ⟨k7, hk7, rfl, hinv7⟩ := hrel
                obtain ⟨hB1, hB2, hbl, hu, hr, hc, hq, he, ho⟩ := hinv7.out
                have c7 := hB1.cell (i := 7) rfl
                have fz7 := hB1.frozen 7
                have hza := hB1.lt
                have hzb := hB2.lt
                have HBw : Below w0.heap.size w0 wr := Hw.out.trans (hbl.mono Hw.out.size)
                by_cases hlt : k7 < n7
                · obtain ⟨y, hd⟩ := get_some S7.out.len.symm hlt
                  obtain ⟨b, off, x, rfl, hbB, hxl, ⟨v1, rfl, t1, t3, t4⟩, hx⟩ := (S7.out.below HBw).at_ hd
                  obtain ⟨la, ln, lc, rfl⟩ := t1.form'
                  have h0 := hx 0 _ rfl
                  have h1 := hx 1 _ rfl
                  simp only [Nat.add_zero] at h0
                  have T1 := Lib.hid t1
                  have fl : ln ≤ maxLen := by have := t1.caps; omega
                  have gl : ln * 40 ≤ 140737488355328 := by have := t3; rw [← t1.len] at this; exact this
                  have HBw' := Lib.hid HBw
                  have hzb' : b < wr.heap.size := by have := HBw.size; omega
                  have hi0 : (0 : Int) ≤ (k7 : Int) := Int.natCast_nonneg _
                  have hi1 : (k7 : Int) < (n7 : Int) := by omega
                  have tokL : True := trivial
                  have hsb := HBw.size
                  clear HBw t1
                  clear hB1 hB2 hbl hu hr hc hq he ho hx hxl
                  go_wp2_with fail
                  go_region_held3 (fun w' => w'.cell? ⟨w.heap.size, 7, none⟩ = some (.slice (some ⟨b, off, none⟩) n7 pc7) ∧ w'.cell? ⟨b, off + k7 * 2, none⟩ = some (.string y.concept) ∧ w'.cell? ⟨b, off + k7 * 2 + 1, none⟩ = some (.slice la ln lc))
                    (first
                      | exact ⟨keep_alloc (w := wr) c7, keep_alloc (w := wr) h0, keep_alloc (w := wr) h1⟩
                      | (have _k := kW; exact kW)
                      | (have _k := kA; first | exact kA | exact ⟨keep_alloc kA.1, keep_alloc kA.2.1, keep_alloc kA.2.2⟩)
                      | go_keep
                      | fail)
                    (first
                      | (have _t := tokL
                         go_must (refine step_append_list rfl (.tmp 113) (.tmp 119) _ rfl (w.heap.size + 1 + 1) w0.heap.size 78 j9 _ 3 40 Try.underlying57 I9.out.1 I9.out.2.1 I9.out.2.2.1 I9.out.2.2.2 rfl (by omega) (R := Cell.Is) (l := []) (m := y.pieces) (.slice (some ⟨wr.heap.size, 0, none⟩) 0 0) rfl (by exact (Own1.empty (w := wr) rfl (by omega)).drew) la ln lc rfl (by exact T1.out.below ((HBw'.out.alloc HBw'.out.size _).drew)) ln (by simp) Cell.Is.one (by simpa using fl) (by simpa using gl) (by show _ ≤ (wr.alloc (.cells #[] 78)).heap.size; rw [World.size_alloc]; omega) ?_)
                         intro aa ac wa hownA hgA0
                         have hgA : (wr.alloc (.cells #[] 78)).grownBy wa _ := ⟨hgA0.os, hgA0.tape, hgA0.output, hgA0.size, hgA0.block⟩
                         have hbA : Below wr.heap.size wr wa := ((Below.refl wr.heap.size wr).alloc (Nat.le_refl _) (.cells #[] 78)).grown hgA (by rw [World.size_alloc]; omega) (fun g hg => by simp [Value.ownBlock] at hg; omega)
                         have kA := And.intro (keep_grown (w := wr) hgA c7 (by simp [Value.ownBlock] <;> omega)) (And.intro (keep_grown (w := wr) hgA h0 (by simp [Value.ownBlock] <;> omega)) (keep_grown (w := wr) hgA h1 (by simp [Value.ownBlock] <;> omega)))
                         have HA := Lib.hid (And.intro hbA hownA)
                         clear tokL _t hgA0 hgA hownA hbA)
                      | (obtain ⟨hbA, hownA⟩ := HA.out
                         have hwB : Below w0.heap.size w0 wa := HBw'.out.trans (hbA.mono HBw'.out.size)
                         have st : Stays wr wa (w.heap.size + 1 + 1) (fun _ => false) := Stays.of_below hbA (Nat.le_refl _)
                         obtain ⟨iB1, iB2, ibl, iu, ir, ic, iq, ie, io⟩ := hinv7.out
                         have hY : Template.Own wa (w.heap.size + 1 + 1) [.string y.concept, .slice aa ln ac] y := ⟨_, rfl, hownA, t3, t4⟩
                         have io' := (st _ _ _ _ _ _ rfl io).imp (fun _ _ r => r.stays st rfl)
                         have hlk : (d.templates.take k7).length = k7 := by rw [List.length_take, ← S7.out.len]; omega
                         have hzW : w.heap.size + 1 < wa.heap.size := by have := hbA.size; omega
                         go_must (refine step_append_list rfl (.tmp 106) (.tmp 122) _ rfl (w.heap.size + 1 + 1) (wa.heap.size + 1) 59 j7 _ 2 40 Try.underlying27 I7.out.1 I7.out.2.1 I7.out.2.2.1 I7.out.2.2.2 rfl (by omega) (R := Template.Own (wa.alloc (.cells #[.string y.concept, .slice aa ln ac] 59)) (w.heap.size + 1 + 1)) (l := d.templates.take k7) (m := [y]) u9 rfl (by exact (io'.alloc _).imp (fun _ _ r => r.stays (Stays.of_alloc _ _ _) rfl)) (some ⟨wa.heap.size, 0, none⟩) 1 1 rfl (by exact SlR.new1 rfl rfl (hY.stays (Stays.of_alloc _ _ _) rfl)) (k7 + 1) (by rw [hlk]) (fun x y hx u hu => by obtain ⟨_, rfl, r1, _⟩ := hx; obtain ⟨_, _, rfl⟩ := r1.form; simp at hu; rcases hu with rfl | rfl <;> rfl) (by rw [hlk]; omega) (by rw [hlk]; omega) (by rw [World.size_alloc]; omega) ?_)
                         intro xa xc w4 hown hgrow
                         have hne : ∀ g, u9.ownBlock = some g → w.heap.size + 1 + 1 ≤ g := fun g hg => (io.block g hg).1
                         have kW := And.intro (keep_grown hgrow kA.1 (fun e => by have := hne _ e.symm; simp at this; omega)) (And.intro (keep_grown hgrow kA.2.1 (fun e => by have := hne _ e.symm; simp at this; omega)) (keep_grown hgrow kA.2.2 (fun e => by have := hne _ e.symm; simp at this; omega)))
                         have H4 := Lib.hid (And.intro hown (And.intro hgrow (And.intro hne (And.intro hY (And.intro io' (And.intro st hlk))))))
                         clear hown hgrow hne hY io' st hlk hownA iB1 iB2 ibl iu ir ic iq ie io hwB)
                      | fail)
                  have Hd := Lib.hid hd
                  clear hd t3 t4
                  go_wp2_with fail
                  go_roundw
                  case rel =>
                    refine ⟨k7 + 1, by omega, by go_num, ?_⟩
                    obtain ⟨hown, hgrow, hne, hY, io', st, hlk⟩ := H4.out
                    obtain ⟨hbA, _⟩ := HA.out
                    obtain ⟨iB1, iB2, ibl, iu, ir, ic, iq, ie, io⟩ := hinv7.out
                    have hyk : d.templates.take k7 ++ [y] = d.templates.take (k7 + 1) := by
                      rw [List.take_succ_eq_append_getElem (by rw [← S7.out.len]; exact hlt), (List.getElem?_eq_some_iff.1 Hd.out).2]
                    have bB1 := iB1.below hbA hza
                    have bB2 := iB2.below hbA hzb
                    have bbl : Below w.heap.size w wa := ibl.trans (hbA.mono ibl.size)
                    have hO := io'.alloc (.cells #[.string y.concept, .slice aa ln ac] 59)
                    have st2 := ((st.trans (Stays.of_alloc wa (w.heap.size + 1 + 1) (.cells #[.string y.concept, .slice aa ln ac] 59))).worse (bad' := fun e => e == 59) (fun _ _ => rfl)).trans (Stays.of_grown hO hgrow)
                    refine ⟨(bB1.alloc _).grown hgrow (fun e => by have := hne _ e.symm; omega), (bB2.alloc _).grown hgrow (fun e => by have := hne _ e.symm; omega), (bbl.alloc (by omega) _).grown hgrow (by rw [World.size_alloc]; omega) (fun g hg => by have := hne g hg; omega), (st2 _ _ _ _ _ _ rfl iu), (st2 _ _ _ _ _ _ rfl ir), (st2 _ _ _ _ _ _ rfl ic).imp (fun _ _ r => r.stays st2 rfl rfl rfl), (st2 _ _ _ _ _ _ rfl iq).imp (fun _ _ r => r.stays st2 rfl rfl), (st2 _ _ _ _ _ _ rfl ie).imp (fun _ _ r => r.stays st2 rfl), ?_⟩
                    rw [← hyk]
                    exact hown.imp (fun _ _ r => r.stays (Stays.of_grown hO hgrow) rfl)
                  case measure => simp [intOf]; omega
                · have hge : n7 ≤ k7 := by omega
                  have hdec : decide (k7 < n7) = false := by simp; omega
                  clear hlt
                  have hall : d.templates.take k7 = d.templates := by rw [List.take_of_length_le (by rw [← S7.out.len]; exact hge)]
                  rw [hall] at ho
                  have Q1 := Lib.hid (And.intro hB1 (And.intro hB2 (And.intro hbl (And.intro hu (And.intro hr (And.intro hc (And.intro hq (And.intro he ho))))))))
                  have c0 := hB1.cell (i := 0) rfl
                  have z0 := hB2.cell (i := 0) rfl
                  have y0 := hB2.frozen 0
                  have c1 := hB1.cell (i := 1) rfl
                  have z1 := hB2.cell (i := 1) rfl
                  have y1 := hB2.frozen 1
                  have c2 := hB1.cell (i := 2) rfl
                  have z2 := hB2.cell (i := 2) rfl
                  have y2 := hB2.frozen 2
                  have c3 := hB1.cell (i := 3) rfl
                  have z3 := hB2.cell (i := 3) rfl
                  have y3 := hB2.frozen 3
                  have c4 := hB1.cell (i := 4) rfl
                  have z4 := hB2.cell (i := 4) rfl
                  have y4 := hB2.frozen 4
                  have c5 := hB1.cell (i := 5) rfl
                  have z5 := hB2.cell (i := 5) rfl
                  have y5 := hB2.frozen 5
                  have c6 := hB1.cell (i := 6) rfl
                  have z6 := hB2.cell (i := 6) rfl
                  have y6 := hB2.frozen 6
                  have z7 := hB2.cell (i := 7) rfl
                  have y7 := hB2.frozen 7
                  clear hB1 hB2 hbl hu hr hc hq he hall HBw
                  obtain ⟨ca7, cc7, rfl⟩ := ho.form
                  have Q2 := Lib.hid ho
                  clear ho
                  go_wp2_with fail
                  obtain ⟨_, _, qbl, qu, qr, qc, qq, qe, qt⟩ := Q1.out
                  have stF := STF wr w.heap.size (.slice ca7 d.templates.length cc7) (.string d.name) (.int .i64 d.version) (.slice ua n2 uc) (.slice ca3 d.concepts.length cc3) (.slice ra n4 rc) (.slice ca5 d.equations.length cc5) (.slice ca6 d.editors.length cc6) (.slice ca7 d.templates.length cc7)
                  have bl := BLF wr w.heap.size (.slice ca7 d.templates.length cc7) (.string d.name) (.int .i64 d.version) (.slice ua n2 uc) (.slice ca3 d.concepts.length cc3) (.slice ra n4 rc) (.slice ca5 d.equations.length cc5) (.slice ca6 d.editors.length cc6) (.slice ca7 d.templates.length cc7) qbl
                  refine bodyPost_ret (v := .agg #[.string d.name, .int .i64 d.version, .slice ua n2 uc, .slice ca3 d.concepts.length cc3, .slice ra n4 rc, .slice ca5 d.equations.length cc5, .slice ca6 d.editors.length cc6, .slice ca7 d.templates.length cc7]) (by simp [results, Try.results8, go_sem, z0, z1, z2, z3, z4, z5, z6, z7]) rfl ⟨[.string d.name, .int .i64 d.version, .slice ua n2 uc, .slice ca3 d.concepts.length cc3, .slice ra n4 rc, .slice ca5 d.equations.length cc5, .slice ca6 d.editors.length cc6, .slice ca7 d.templates.length cc7], rfl, ?_, bl⟩
                  exact ⟨_, _, _, _, _, _, rfl, (stF _ _ _ _ _ _ rfl qu).mono (by omega), ((stF _ _ _ _ _ _ rfl qc).imp (fun _ _ r => (r.stays stF rfl rfl rfl).mono (by omega))).mono (by omega), (stF _ _ _ _ _ _ rfl qr).mono (by omega), ((stF _ _ _ _ _ _ rfl qq).imp (fun _ _ r => (r.stays stF rfl rfl).mono (by omega))).mono (by omega), ((stF _ _ _ _ _ _ rfl qe).imp (fun _ _ r => (r.stays stF rfl).mono (by omega))).mono (by omega), ((stF _ _ _ _ _ _ rfl qt).imp (fun _ _ r => (r.stays stF rfl).mono (by omega))).mono (by omega), Hfit.out, Hr.out⟩

end Go.Proofs.Ytdhljfblkidohaa
