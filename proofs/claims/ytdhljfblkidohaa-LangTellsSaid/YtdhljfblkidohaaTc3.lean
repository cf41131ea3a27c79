/- lang.Concept: the first concept of a name, its rows copied. -/
import Derived.Test.YtdhljfblkidohaaTc2
import Derived.Deep.RegionLaw
namespace Go.Proofs.Ytdhljfblkidohaa
set_option linter.unusedSimpArgs false
set_option linter.unusedVariables false
open Go.RowKit

theorem noC_own (W : World) (B : Nat) : Concept.Own W B [.string ⟨#[]⟩, .string ⟨#[]⟩, .bool false, .slice none 0 0, .slice none 0 0, .slice none 0 0] noC := by
  have nil : ∀ {α : Type} (e : TypeId) (size : Nat) (R : List Value → α → Prop), Own1 W B e size R (.slice none 0 0) [] := fun _ _ _ => ⟨[], World.ownsRow_nil _ _ _ _, FlatR.nil_⟩
  exact ⟨_, _, _, rfl, nil _ _ _, nil _ _ _, nil _ _ _, by simp [noC, Fit], by simp [noC, Fit], by simp [noC, Fit], by show (0 : Nat) ≤ maxLen; unfold maxLen; omega, by show (0 : Nat) ≤ maxLen; unfold maxLen; omega⟩
theorem set_other {α : Type} {w : World} {base size g i : Nat} {e t : TypeId} {cs : Array Value} {R : List Value → α → Prop} {v : Value} {l : List α} (h : Own1 w base e size R v l) (hb : Blk w g t cs) (hne : e ≠ t) (u : Value) : Own1 (w.setCell ⟨g, i, none⟩ u) base e size R v l := by
  obtain ⟨xs, ⟨h0, h1⟩, h2⟩ := h
  refine ⟨xs, ⟨h0, ?_⟩, h2⟩
  rcases h1 with h1 | ⟨k, cap, cur, r1, r2, r3, r4⟩
  · exact .inl h1
  · refine .inr ⟨k, cap, cur, r1, r2, ?_, r4⟩
    have hk : k ≠ g := by
      intro he
      subst he
      unfold Blk at hb
      rw [r3] at hb
      injection hb with hb
      injection hb with _ hb _
      exact hne hb
    rw [Below.heap_setCell w ⟨g, i, none⟩ u k hk]
    exact r3
theorem stays_typed {w : World} {base g i : Nat} {t : TypeId} {cs : Array Value} (hb : Blk w g t cs) (u : Value) : Stays w (w.setCell ⟨g, i, none⟩ u) base (fun e => e == t) :=
  fun _ _ _ _ _ _ h ho => set_other ho hb (by simpa using h) u
theorem stays_6 {W : World} {g base : Nat} {t : TypeId} {cs : Array Value} (hb : Blk W g t cs) {u0 u1 u2 u3 u4 u5 : Value} : Stays W ((((((W.setCell ⟨g, 0, none⟩ (u0)).setCell ⟨g, 1, none⟩ (u1)).setCell ⟨g, 2, none⟩ (u2)).setCell ⟨g, 3, none⟩ (u3)).setCell ⟨g, 4, none⟩ (u4)).setCell ⟨g, 5, none⟩ (u5)) base (fun e => e == t) := by
  have b1 := hb.set_ 0 u0
  have b2 := b1.set_ 1 u1
  have b3 := b2.set_ 2 u2
  have b4 := b3.set_ 3 u3
  have b5 := b4.set_ 4 u4
  exact (((((stays_typed hb u0).trans (stays_typed b1 u1)).trans (stays_typed b2 u2)).trans (stays_typed b3 u3)).trans (stays_typed b4 u4)).trans (stays_typed b5 u5)
set_option maxRecDepth 100000 in
set_option maxHeartbeats 4000000 in
theorem lconcept_any {x : List Value} {d : Language} (s : ByteArray) (w w0 : World) (h : Language.Is w0 w0.heap.size x d) (hw : Below w0.heap.size w0 w) :
    Calls Try.prog 9 #[.agg x.toArray, .string s] w fun e w' => ∃ x' : List Value, e = .returned (.tuple #[.agg x'.toArray, .bool (conceptN d.concepts s).isSome]) ∧ Concept.Own w' w.heap.size x' ((conceptN d.concepts s).getD noC) ∧ Below w.heap.size w w' := by
  have hmf : ∀ (fn : Fn) (first cap : Array Value) (w : World), (Instr.makeFunc fn first cap).run Try.prog w = .ok (.func fn first cap) w := fun _ _ _ _ => rfl
  obtain ⟨v2, v3, v4, v5, v6, v7, rfl, s2, s3, s4, s5, s6, s7, hfit, _⟩ := h
  obtain ⟨a2, n2, c2, rfl⟩ := s2.form'
  obtain ⟨a3, n3, c3, rfl⟩ := s3.form'
  obtain ⟨a4, n4, c4, rfl⟩ := s4.form'
  obtain ⟨a5, n5, c5, rfl⟩ := s5.form'
  obtain ⟨a6, n6, c6, rfl⟩ := s6.form'
  obtain ⟨a7, n7, c7, rfl⟩ := s7.form'
  have hlen : d.concepts.length = n3 := s3.len.symm
  have LB : Below w.heap.size w (((w.alloc (.cells #[.string d.name, .int .i64 d.version, .slice a2 n2 c2, .slice a3 n3 c3, .slice a4 n4 c4, .slice a5 n5 c5, .slice a6 n6 c6, .slice a7 n7 c7] 29)).alloc (.cells #[.string s] 9)).alloc (.cells #[.string ⟨#[]⟩, .string ⟨#[]⟩, .bool false, .slice none 0 0, .slice none 0 0, .slice none 0 0] 38)) := (((Below.refl _ _).alloc (Nat.le_refl _) (.cells #[.string d.name, .int .i64 d.version, .slice a2 n2 c2, .slice a3 n3 c3, .slice a4 n4 c4, .slice a5 n5 c5, .slice a6 n6 c6, .slice a7 n7 c7] 29)).alloc (below2 (Nat.le_refl _)) (.cells #[.string s] 9)).alloc (below3 (Nat.le_refl _)) (.cells #[.string ⟨#[]⟩, .string ⟨#[]⟩, .bool false, .slice none 0 0, .slice none 0 0, .slice none 0 0] 38)
  have LB0 : Below w0.heap.size w0 (((w.alloc (.cells #[.string d.name, .int .i64 d.version, .slice a2 n2 c2, .slice a3 n3 c3, .slice a4 n4 c4, .slice a5 n5 c5, .slice a6 n6 c6, .slice a7 n7 c7] 29)).alloc (.cells #[.string s] 9)).alloc (.cells #[.string ⟨#[]⟩, .string ⟨#[]⟩, .bool false, .slice none 0 0, .slice none 0 0, .slice none 0 0] 38)) := hw.trans (LB.mono hw.size)
  have hq : ((((w.alloc (.cells #[.string d.name, .int .i64 d.version, .slice a2 n2 c2, .slice a3 n3 c3, .slice a4 n4 c4, .slice a5 n5 c5, .slice a6 n6 c6, .slice a7 n7 c7] 29)).alloc (.cells #[.string s] 9)).alloc (.cells #[.string ⟨#[]⟩, .string ⟨#[]⟩, .bool false, .slice none 0 0, .slice none 0 0, .slice none 0 0] 38))).cell? ⟨w.heap.size + 1, 0, none⟩ = some (.string s) := ((Blk.new_ (w := w.alloc (.cells #[.string d.name, .int .i64 d.version, .slice a2 n2 c2, .slice a3 n3 c3, .slice a4 n4 c4, .slice a5 n5 c5, .slice a6 n6 c6, .slice a7 n7 c7] 29)) (by simp) 9 #[.string s]).alloc (.cells #[.string ⟨#[]⟩, .string ⟨#[]⟩, .bool false, .slice none 0 0, .slice none 0 0, .slice none 0 0] 38)).cell (i := 0) rfl
  have IX : Hid (Calls Try.prog 36 #[.slice a3 n3 c3, .func (.func 37) #[] #[.pointer (some ⟨w.heap.size + 1, 0, none⟩)]] (((w.alloc (.cells #[.string d.name, .int .i64 d.version, .slice a2 n2 c2, .slice a3 n3 c3, .slice a4 n4 c4, .slice a5 n5 c5, .slice a6 n6 c6, .slice a7 n7 c7] 29)).alloc (.cells #[.string s] 9)).alloc (.cells #[.string ⟨#[]⟩, .string ⟨#[]⟩, .bool false, .slice none 0 0, .slice none 0 0, .slice none 0 0] 38)) fun e w' => e = .returned (.int .i64 (firstAt (fun c : Concept => decide (c.name = s)) d.concepts)) ∧ Below ((((w.alloc (.cells #[.string d.name, .int .i64 d.version, .slice a2 n2 c2, .slice a3 n3 c3, .slice a4 n4 c4, .slice a5 n5 c5, .slice a6 n6 c6, .slice a7 n7 c7] 29)).alloc (.cells #[.string s] 9)).alloc (.cells #[.string ⟨#[]⟩, .string ⟨#[]⟩, .bool false, .slice none 0 0, .slice none 0 0, .slice none 0 0] 38))).heap.size (((w.alloc (.cells #[.string d.name, .int .i64 d.version, .slice a2 n2 c2, .slice a3 n3 c3, .slice a4 n4 c4, .slice a5 n5 c5, .slice a6 n6 c6, .slice a7 n7 c7] 29)).alloc (.cells #[.string s] 9)).alloc (.cells #[.string ⟨#[]⟩, .string ⟨#[]⟩, .bool false, .slice none 0 0, .slice none 0 0, .slice none 0 0] 38)) w') := Lib.hid
    (idx_Concept _ _ _ (((w.alloc (.cells #[.string d.name, .int .i64 d.version, .slice a2 n2 c2, .slice a3 n3 c3, .slice a4 n4 c4, .slice a5 n5 c5, .slice a6 n6 c6, .slice a7 n7 c7] 29)).alloc (.cells #[.string s] 9)).alloc (.cells #[.string ⟨#[]⟩, .string ⟨#[]⟩, .bool false, .slice none 0 0, .slice none 0 0, .slice none 0 0] 38)) _ (((s3.below LB0)).more LB0.size) (Below.refl _ _) (fun args w => by go_simp) (fun x y W2 hx h2 => clos_name x y W2 hx _ s ((h2.cell (cell_lt hq)).trans hq)))
  have S3 := Lib.hid s3
  have HLB := Lib.hid LB
  have HLB0 := Lib.hid LB0
  have BL0 : Hid (Blk (((w.alloc (.cells #[.string d.name, .int .i64 d.version, .slice a2 n2 c2, .slice a3 n3 c3, .slice a4 n4 c4, .slice a5 n5 c5, .slice a6 n6 c6, .slice a7 n7 c7] 29)).alloc (.cells #[.string s] 9)).alloc (.cells #[.string ⟨#[]⟩, .string ⟨#[]⟩, .bool false, .slice none 0 0, .slice none 0 0, .slice none 0 0] 38)) w.heap.size 29 #[.string d.name, .int .i64 d.version, .slice a2 n2 c2, .slice a3 n3 c3, .slice a4 n4 c4, .slice a5 n5 c5, .slice a6 n6 c6, .slice a7 n7 c7]) := Lib.hid (((Blk.new w _ _).alloc _).alloc _)
  have BR0 : Hid (Blk (((w.alloc (.cells #[.string d.name, .int .i64 d.version, .slice a2 n2 c2, .slice a3 n3 c3, .slice a4 n4 c4, .slice a5 n5 c5, .slice a6 n6 c6, .slice a7 n7 c7] 29)).alloc (.cells #[.string s] 9)).alloc (.cells #[.string ⟨#[]⟩, .string ⟨#[]⟩, .bool false, .slice none 0 0, .slice none 0 0, .slice none 0 0] 38)) (w.heap.size + 1 + 1) 38 #[.string ⟨#[]⟩, .string ⟨#[]⟩, .bool false, .slice none 0 0, .slice none 0 0, .slice none 0 0]) := Lib.hid (Blk.new_ (by simp) _ _)
  have HW := Lib.hid hw
  clear s2 s3 s4 s5 s6 s7 hfit hw LB LB0 hq
  go_enter Try.func9, Try.ntmps9
  try dsimp only [List.append]
  cases hfi : d.concepts.findIdx? (fun c : Concept => decide (c.name = s)) with
  | none =>
    have hno := List.findIdx?_eq_none_iff.1 hfi
    have hfd : conceptN d.concepts s = none := List.find?_eq_none.2 (fun x hx => by have := hno x hx; simpa using this)
    have hm1 : firstAt (fun c : Concept => decide (c.name = s)) d.concepts = -1 := by unfold firstAt; rw [hfi]
    rw [hm1] at IX
    have HFD := Lib.hid hfd
    clear hfi hno hfd hm1
    go_wp2_with (first
      | (go_at_call 36; refine IX.out.mono ?_; rintro e w1 ⟨rfl, hb⟩; have L1 := Lib.hid (HLB.out.trans (hb.mono HLB.out.size)); have r1 := BR0.out.below hb BR0.out.lt; have z0 : w1.cell? ⟨w.heap.size + 1 + 1, 0, none⟩ = some (.string ⟨#[]⟩) := r1.cell (i := 0) rfl; have y0 : w1.frozen? ⟨w.heap.size + 1 + 1, 0, none⟩ = false := r1.frozen 0; have z1 : w1.cell? ⟨w.heap.size + 1 + 1, 1, none⟩ = some (.string ⟨#[]⟩) := r1.cell (i := 1) rfl; have y1 : w1.frozen? ⟨w.heap.size + 1 + 1, 1, none⟩ = false := r1.frozen 1; have z2 : w1.cell? ⟨w.heap.size + 1 + 1, 2, none⟩ = some (.bool false) := r1.cell (i := 2) rfl; have y2 : w1.frozen? ⟨w.heap.size + 1 + 1, 2, none⟩ = false := r1.frozen 2; have z3 : w1.cell? ⟨w.heap.size + 1 + 1, 3, none⟩ = some (.slice none 0 0) := r1.cell (i := 3) rfl; have y3 : w1.frozen? ⟨w.heap.size + 1 + 1, 3, none⟩ = false := r1.frozen 3; have z4 : w1.cell? ⟨w.heap.size + 1 + 1, 4, none⟩ = some (.slice none 0 0) := r1.cell (i := 4) rfl; have y4 : w1.frozen? ⟨w.heap.size + 1 + 1, 4, none⟩ = false := r1.frozen 4; have z5 : w1.cell? ⟨w.heap.size + 1 + 1, 5, none⟩ = some (.slice none 0 0) := r1.cell (i := 5) rfl; have y5 : w1.frozen? ⟨w.heap.size + 1 + 1, 5, none⟩ = false := r1.frozen 5; have lr1 := r1.lt; clear hb r1)
      | fail)
    refine bodyPost_ret (v := .tuple #[.agg #[.string ⟨#[]⟩, .string ⟨#[]⟩, .bool false, .slice none 0 0, .slice none 0 0, .slice none 0 0], .bool false]) (by simp [results, Try.results9, go_sem, z0, z1, z2, z3, z4, z5]) rfl ?_
    rw [HFD.out]
    exact ⟨[.string ⟨#[]⟩, .string ⟨#[]⟩, .bool false, .slice none 0 0, .slice none 0 0, .slice none 0 0], rfl, noC_own _ _, set6_below L1.out (by omega)⟩
  | some k =>
    obtain ⟨hk, hp, hf⟩ := List.findIdx?_eq_some_iff_getElem.1 hfi
    have hd : d.concepts[k]? = some d.concepts[k] := List.getElem?_eq_getElem hk
    obtain ⟨y, hy⟩ : ∃ y, d.concepts[k] = y := ⟨_, rfl⟩
    rw [hy] at hd hp
    have hfd : conceptN d.concepts s = some y := find_at hd hp (fun i c hi hc => by have h1 := hf i hi; rw [(List.getElem?_eq_some_iff.1 hc).2] at h1; simpa using h1)
    have hm1 : firstAt (fun c : Concept => decide (c.name = s)) d.concepts = (k : Int) := by unfold firstAt; rw [hfi]
    rw [hm1] at IX
    have HFD := Lib.hid hfd
    obtain ⟨b, off, x, rfl, hbB, hxl, ⟨q1, q2, q3, rfl, r1, r2, r3, f1, f2, f3, f4⟩, hx⟩ := (S3.out.below HLB0.out).at_ hd
    have T1 := Lib.hid r1
    have T2 := Lib.hid r2
    have T3 := Lib.hid r3
    obtain ⟨p1, m1, r1', rfl⟩ := r1.form'
    obtain ⟨p2, m2, r2', rfl⟩ := r2.form'
    obtain ⟨p3, m3, r3', rfl⟩ := r3.form'
    have FT := Lib.hid (And.intro f1 (And.intro f2 (And.intro f3 f4)))
    have HX := Lib.hid hx
    have HBB := Lib.hid hbB
    have hi0 : (0 : Int) ≤ (k : Int) := Int.natCast_nonneg _
    have hi2 : ¬ (k : Int) < 0 := by omega
    have hi1 : (k : Int) < (n3 : Int) := by omega
    clear hfi hk hp hf hd hy hfd hm1 hxl hx r1 r2 r3 f1 f2 f3 f4 hbB
    go_wp2_with (first
      | (go_at_call 36; go_must (refine IX.out.mono ?_; rintro e w7 ⟨rfl, hb⟩; have L7 := Lib.hid (HLB.out.trans (hb.mono HLB.out.size)); have R7 := Lib.hid (BR0.out.below hb BR0.out.lt); have B7 := Lib.hid (BL0.out.below hb BL0.out.lt); have kx3 := B7.out.cell (i := 3) rfl; have hbw := Nat.lt_of_lt_of_le HBB.out HLB0.out.size; have h0 := (hb.cell (p := ⟨b, off + k * 6 + 0, none⟩) hbw).trans (HX.out 0 _ rfl); have h1 := (hb.cell (p := ⟨b, off + k * 6 + 1, none⟩) hbw).trans (HX.out 1 _ rfl); have h2 := (hb.cell (p := ⟨b, off + k * 6 + 2, none⟩) hbw).trans (HX.out 2 _ rfl); have h3 := (hb.cell (p := ⟨b, off + k * 6 + 3, none⟩) hbw).trans (HX.out 3 _ rfl); have h4 := (hb.cell (p := ⟨b, off + k * 6 + 4, none⟩) hbw).trans (HX.out 4 _ rfl); have h5 := (hb.cell (p := ⟨b, off + k * 6 + 5, none⟩) hbw).trans (HX.out 5 _ rfl); simp only [Nat.add_zero] at h0; have hbw2 : b < w7.heap.size := Nat.lt_of_lt_of_le hbw hb.size; have lr7 := R7.out.lt; clear hb hbw))
      | fail)
    generalize hW8 : World.alloc w7 _ = w8
    have b78 : Below w7.heap.size w7 w8 := by rw [← hW8]; exact (Below.refl _ _).alloc (Nat.le_refl _) _
    have B8 : Hid (Blk w8 w7.heap.size 38 #[.string y.name, .string y.super, .bool y.abs, .slice p1 m1 r1', .slice p2 m2 r2', .slice p3 m3 r3']) := Lib.hid (by rw [← hW8]; exact Blk.new w7 _ _)
    have L8 : Hid (Below w.heap.size w w8) := Lib.hid (L7.out.trans (b78.mono L7.out.size))
    have R8 := Lib.hid (R7.out.below b78 R7.out.lt)
    have g3 : w8.cell? ⟨w7.heap.size, 3, none⟩ = some (.slice p1 m1 r1') := B8.out.cell (i := 3) rfl
    have g4 : w8.cell? ⟨w7.heap.size, 4, none⟩ = some (.slice p2 m2 r2') := B8.out.cell (i := 4) rfl
    have g5 : w8.cell? ⟨w7.heap.size, 5, none⟩ = some (.slice p3 m3 r3') := B8.out.cell (i := 5) rfl
    have lt8 := B8.out.lt
    have LZ : Hid (Below w0.heap.size w0 w8) := Lib.hid (HW.out.trans (L8.out.mono HW.out.size))
    have CL3 : Hid (∀ W, Below w8.heap.size w8 W → Calls Try.prog 38 #[.slice p1 m1 r1'] W fun e w' => ∃ a c, e = .returned (.slice a y.props.length c) ∧ Own1 w' W.heap.size 45 2 PropDef.Is (.slice a y.props.length c) y.props ∧ Below W.heap.size W w') := Lib.hid (fun W hW => clone_PropDef W w8 (((T1.out.below LZ.out)).more LZ.out.size) FT.out.1 hW)
    have CL4 : Hid (∀ W, Below w8.heap.size w8 W → Calls Try.prog 39 #[.slice p2 m2 r2'] W fun e w' => ∃ a c, e = .returned (.slice a y.kids.length c) ∧ Own1 w' W.heap.size 47 4 KidDef.Is (.slice a y.kids.length c) y.kids ∧ Below W.heap.size W w') := Lib.hid (fun W hW => clone_KidDef W w8 (((T2.out.below LZ.out)).more LZ.out.size) FT.out.2.1 hW)
    have CL5 : Hid (∀ W, Below w8.heap.size w8 W → Calls Try.prog 40 #[.slice p3 m3 r3'] W fun e w' => ∃ a c, e = .returned (.slice a y.refs.length c) ∧ Own1 w' W.heap.size 49 3 RefDef.Is (.slice a y.refs.length c) y.refs ∧ Below W.heap.size W w') := Lib.hid (fun W hW => clone_RefDef W w8 (((T3.out.below LZ.out)).more LZ.out.size) FT.out.2.2.1 hW)
    clear hW8 b78
    have tok3 : True := trivial
    have tok4 : True := trivial
    have tok5 : True := trivial
    go_region_law (first
      | (go_simp; go_at_call 38; have _t := tok3; refine (CL3.out _ (Below.refl w8.heap.size w8).drew).mono ?_; rintro e w9 ⟨xa3, xc3, rfl, hown, hb⟩; have L9 : Hid (Below w8.heap.size w8 w9) := Lib.hid ((Below.refl w8.heap.size w8).drew.trans (hb.mono (Nat.le_refl _))); have B9 : Hid (Blk w9 w7.heap.size 38 #[.string y.name, .string y.super, .bool y.abs, .slice p1 m1 r1', .slice p2 m2 r2', .slice p3 m3 r3']) := Lib.hid (B8.out.below L9.out B8.out.lt); have O3 := Lib.hid hown; have b3h := Lib.hid hb; have bb3 := B9.out; have k30 : w9.cell? ⟨w7.heap.size, 0, none⟩ = some (.string y.name) := bb3.cell (i := 0) rfl; have k31 : w9.cell? ⟨w7.heap.size, 1, none⟩ = some (.string y.super) := bb3.cell (i := 1) rfl; have k32 : w9.cell? ⟨w7.heap.size, 2, none⟩ = some (.bool y.abs) := bb3.cell (i := 2) rfl; have k33 : w9.cell? ⟨w7.heap.size, 3, none⟩ = some (.slice p1 m1 r1') := bb3.cell (i := 3) rfl; have k34 : w9.cell? ⟨w7.heap.size, 4, none⟩ = some (.slice p2 m2 r2') := bb3.cell (i := 4) rfl; have k35 : w9.cell? ⟨w7.heap.size, 5, none⟩ = some (.slice p3 m3 r3') := bb3.cell (i := 5) rfl; have kf33 : w9.frozen? ⟨w7.heap.size, 3, none⟩ = false := bb3.frozen 3; have kf34 : w9.frozen? ⟨w7.heap.size, 4, none⟩ = false := bb3.frozen 4; have kf35 : w9.frozen? ⟨w7.heap.size, 5, none⟩ = false := bb3.frozen 5; have kl3 := bb3.lt; clear hown hb bb3 tok3 _t)
      | (go_simp; go_at_call 39; have _t := tok4; have _u := B9; refine (CL4.out _ (L9.out)).mono ?_; rintro e w10 ⟨xa4, xc4, rfl, hown, hb⟩; have L10 : Hid (Below w8.heap.size w8 w10) := Lib.hid (L9.out.trans (hb.mono L9.out.size)); have B10 : Hid (Blk w10 w7.heap.size 38 #[.string y.name, .string y.super, .bool y.abs, .slice p1 m1 r1', .slice p2 m2 r2', .slice p3 m3 r3']) := Lib.hid (B8.out.below L10.out B8.out.lt); have O4 := Lib.hid hown; have b4h := Lib.hid hb; have bb4 := B10.out; have k40 : w10.cell? ⟨w7.heap.size, 0, none⟩ = some (.string y.name) := bb4.cell (i := 0) rfl; have k41 : w10.cell? ⟨w7.heap.size, 1, none⟩ = some (.string y.super) := bb4.cell (i := 1) rfl; have k42 : w10.cell? ⟨w7.heap.size, 2, none⟩ = some (.bool y.abs) := bb4.cell (i := 2) rfl; have k43 : w10.cell? ⟨w7.heap.size, 3, none⟩ = some (.slice p1 m1 r1') := bb4.cell (i := 3) rfl; have k44 : w10.cell? ⟨w7.heap.size, 4, none⟩ = some (.slice p2 m2 r2') := bb4.cell (i := 4) rfl; have k45 : w10.cell? ⟨w7.heap.size, 5, none⟩ = some (.slice p3 m3 r3') := bb4.cell (i := 5) rfl; have kf43 : w10.frozen? ⟨w7.heap.size, 3, none⟩ = false := bb4.frozen 3; have kf44 : w10.frozen? ⟨w7.heap.size, 4, none⟩ = false := bb4.frozen 4; have kf45 : w10.frozen? ⟨w7.heap.size, 5, none⟩ = false := bb4.frozen 5; have kl4 := bb4.lt; clear hown hb bb4 tok4 _t)
      | (go_simp; go_at_call 40; have _t := tok5; have _u := B10; refine (CL5.out _ (L10.out)).mono ?_; rintro e w11 ⟨xa5, xc5, rfl, hown, hb⟩; have L11 : Hid (Below w8.heap.size w8 w11) := Lib.hid (L10.out.trans (hb.mono L10.out.size)); have B11 : Hid (Blk w11 w7.heap.size 38 #[.string y.name, .string y.super, .bool y.abs, .slice p1 m1 r1', .slice p2 m2 r2', .slice p3 m3 r3']) := Lib.hid (B8.out.below L11.out B8.out.lt); have O5 := Lib.hid hown; have b5h := Lib.hid hb; have bb5 := B11.out; have k50 : w11.cell? ⟨w7.heap.size, 0, none⟩ = some (.string y.name) := bb5.cell (i := 0) rfl; have k51 : w11.cell? ⟨w7.heap.size, 1, none⟩ = some (.string y.super) := bb5.cell (i := 1) rfl; have k52 : w11.cell? ⟨w7.heap.size, 2, none⟩ = some (.bool y.abs) := bb5.cell (i := 2) rfl; have k53 : w11.cell? ⟨w7.heap.size, 3, none⟩ = some (.slice p1 m1 r1') := bb5.cell (i := 3) rfl; have k54 : w11.cell? ⟨w7.heap.size, 4, none⟩ = some (.slice p2 m2 r2') := bb5.cell (i := 4) rfl; have k55 : w11.cell? ⟨w7.heap.size, 5, none⟩ = some (.slice p3 m3 r3') := bb5.cell (i := 5) rfl; have kf53 : w11.frozen? ⟨w7.heap.size, 3, none⟩ = false := bb5.frozen 3; have kf54 : w11.frozen? ⟨w7.heap.size, 4, none⟩ = false := bb5.frozen 4; have kf55 : w11.frozen? ⟨w7.heap.size, 5, none⟩ = false := bb5.frozen 5; have kl5 := bb5.lt; clear hown hb bb5 tok5 _t; have r5 := R8.out.below L11.out R8.out.lt; have z0 : w11.cell? ⟨w.heap.size + 1 + 1, 0, none⟩ = some (.string ⟨#[]⟩) := r5.cell (i := 0) rfl; have y0 : w11.frozen? ⟨w.heap.size + 1 + 1, 0, none⟩ = false := r5.frozen 0; have z1 : w11.cell? ⟨w.heap.size + 1 + 1, 1, none⟩ = some (.string ⟨#[]⟩) := r5.cell (i := 1) rfl; have y1 : w11.frozen? ⟨w.heap.size + 1 + 1, 1, none⟩ = false := r5.frozen 1; have z2 : w11.cell? ⟨w.heap.size + 1 + 1, 2, none⟩ = some (.bool false) := r5.cell (i := 2) rfl; have y2 : w11.frozen? ⟨w.heap.size + 1 + 1, 2, none⟩ = false := r5.frozen 2; have z3 : w11.cell? ⟨w.heap.size + 1 + 1, 3, none⟩ = some (.slice none 0 0) := r5.cell (i := 3) rfl; have y3 : w11.frozen? ⟨w.heap.size + 1 + 1, 3, none⟩ = false := r5.frozen 3; have z4 : w11.cell? ⟨w.heap.size + 1 + 1, 4, none⟩ = some (.slice none 0 0) := r5.cell (i := 4) rfl; have y4 : w11.frozen? ⟨w.heap.size + 1 + 1, 4, none⟩ = false := r5.frozen 4; have z5 : w11.cell? ⟨w.heap.size + 1 + 1, 5, none⟩ = some (.slice none 0 0) := r5.cell (i := 5) rfl; have y5 : w11.frozen? ⟨w.heap.size + 1 + 1, 5, none⟩ = false := r5.frozen 5; have lr11 := r5.lt; have R11 := Lib.hid r5; clear r5))
    all_goals
      clear g3 g4 g5
      go_wp2_with fail
      refine bodyPost_ret (v := .tuple #[.agg #[.string y.name, .string y.super, .bool y.abs, .slice xa3 y.props.length xc3, .slice xa4 y.kids.length xc4, .slice xa5 y.refs.length xc5], .bool true]) (by simp [results, Try.results9, go_sem, z0, z1, z2, z3, z4, z5]) rfl ?_
      rw [HFD.out]
      have nw : w.heap.size + 1 + 1 ≠ w7.heap.size := by have := R7.out.lt; omega
      have b1 := B11.out.set_ 3 (.slice xa3 y.props.length xc3)
      have b2 := b1.set_ 4 (.slice xa4 y.kids.length xc4)
      have c1 := R11.out.far (p := ⟨w7.heap.size, 3, none⟩) nw (.slice xa3 y.props.length xc3)
      have c2' := c1.far (p := ⟨w7.heap.size, 4, none⟩) nw (.slice xa4 y.kids.length xc4)
      have c3' := c2'.far (p := ⟨w7.heap.size, 5, none⟩) nw (.slice xa5 y.refs.length xc5)
      have st : Stays w11 (((((((((w11.setCell ⟨w7.heap.size, 3, none⟩ (.slice xa3 y.props.length xc3)).setCell ⟨w7.heap.size, 4, none⟩ (.slice xa4 y.kids.length xc4)).setCell ⟨w7.heap.size, 5, none⟩ (.slice xa5 y.refs.length xc5)).setCell ⟨w.heap.size + 1 + 1, 0, none⟩ (.string y.name)).setCell ⟨w.heap.size + 1 + 1, 1, none⟩ (.string y.super)).setCell ⟨w.heap.size + 1 + 1, 2, none⟩ (.bool y.abs)).setCell ⟨w.heap.size + 1 + 1, 3, none⟩ (.slice xa3 y.props.length xc3)).setCell ⟨w.heap.size + 1 + 1, 4, none⟩ (.slice xa4 y.kids.length xc4)).setCell ⟨w.heap.size + 1 + 1, 5, none⟩ (.slice xa5 y.refs.length xc5)) w.heap.size (fun e => e == 38) := (((stays_typed B11.out (.slice xa3 y.props.length xc3)).trans (stays_typed b1 (.slice xa4 y.kids.length xc4))).trans (stays_typed b2 (.slice xa5 y.refs.length xc5))).trans (stays_6 c3')
      have e8 : w.heap.size ≤ w8.heap.size := L8.out.size
      have e9 : w.heap.size ≤ w9.heap.size := Nat.le_trans e8 L9.out.size
      have e10 : w.heap.size ≤ w10.heap.size := Nat.le_trans e8 L10.out.size
      have o3 := (((O3.out.mono (base' := w.heap.size) (by simpa using e8)).below b4h.out (Nat.le_refl _)).below b5h.out (Nat.le_refl _))
      have o4 := ((O4.out.mono (base' := w.heap.size) e9).below b5h.out (Nat.le_refl _))
      have o5 := O5.out.mono (base' := w.heap.size) e10
      refine ⟨[.string y.name, .string y.super, .bool y.abs, .slice xa3 y.props.length xc3, .slice xa4 y.kids.length xc4, .slice xa5 y.refs.length xc5], rfl, ⟨_, _, _, rfl, st _ _ _ _ _ _ rfl o3, st _ _ _ _ _ _ rfl o4, st _ _ _ _ _ _ rfl o5, FT.out⟩, ?_⟩
      exact set6_below ((((L8.out.trans (L11.out.mono e8)).setCell (p := ⟨w7.heap.size, 3, none⟩) L7.out.size _).setCell (p := ⟨w7.heap.size, 4, none⟩) L7.out.size _).setCell (p := ⟨w7.heap.size, 5, none⟩) L7.out.size _) (by omega)
end Go.Proofs.Ytdhljfblkidohaa
